/- What the law's proof leans on, part 21. Conditions: in each statement. -/
import Derived.Test.YtibehelnfbcnjaaGreatDoorQ1
set_option linter.all false
namespace Go.Proofs.YtibehelnfbcnjaaGreatDoor.v
open Go Go.Ab
set_option maxRecDepth 100000
set_option linter.unusedSimpArgs false
set_option linter.unusedVariables false
def dpF (d : Nat) (l : List MTerm) : Nat := l.foldl (fun d x => max d x.dp) d
theorem zvp : ∀ (l : List MTerm) (d : Nat), dpF d l = max d (MTerm.dpL l)
 | [], d => by simp [dpF, MTerm.dpL]
 | x :: l, d => by
  have := zvp l (max d x.dp)
  unfold dpF at this ⊢
  rw [List.foldl_cons, this, zqu]; omega
theorem yacl {l : List MTerm} {d : Nat} : dpF d (l.drop l.length) = d := by rw [List.drop_length]; rfl
theorem zxr {l : List MTerm} {i d : Nat} (h : i < l.length) : dpF d (l.drop i) = dpF (max d l[i].dp) (l.drop (i + 1)) := by rw [List.drop_eq_getElem_cons h]; rfl
theorem yali {a b : Nat} : (bif decide ((a : Int) < (b : Int)) then (b : Int) else (a : Int)) = ((max a b : Nat) : Int) := by
 by_cases h : (a : Int) < b
 ·rw [decide_eq_true h, cond_true]; omega
 ·rw [decide_eq_false h, cond_false]; omega
theorem yan7 (p : Pl) (l : List MTerm) (hl : l.length < 2 ^ 62) (hS : ∀ x ∈ l, zas Tryz.prog (om Tryz.prog) 155 [zaf x] ⟨0, []⟩ = some (.int .i64 x.dp, ⟨0, []⟩)) :
  ∀ i, i ≤ l.length → ∀ d : Nat, lim (some [3]) 0 (blk 0 (om Tryz.prog ⟨155, none⟩ 0 (.loop (lpb Tryz.f155 0)) ⟨⟨20, [(3, .int .i64 d), (7, .rsl (slA p l) p.cap 6 (l.map zaf)), (8, .int .i64 l.length), (9, .int .i64 i)]⟩, [], ⟨0, []⟩⟩)) = some (.normal, ⟨⟨20, [(3, .int .i64 (dpF d (l.drop i)))]⟩, [], ⟨0, []⟩⟩) := by
 refine zbl (fun d => ?_) (fun i h ih d => ?_) <;> rw [zac]
 ·simp (maxSteps := 1000000) -implicitDefEqProofs only [↓reduceIte, ↓cond_true, ↓cond_false, sr1, sr2, kA, seval, d155, n155, e155, yacl]
 ·have hx := hS l[i] (List.getElem_mem h)
  have L := ih (max d l[i].dp)
  rw [zxr h]
  simp only [zaf, zah] at hx L
  simp (maxSteps := 1000000) -implicitDefEqProofs only [↓reduceIte, ↓cond_true, ↓cond_false, sr1, sr2, kA, seval, d155, n155, e155, dlt_t h, wi_nat (show i < 2 ^ 62 by omega), Go.Proofs.YtibehelnfbcnjaaGreatDoor.v.ix_sl zab h, zaf, zah, hx, L, yali]
theorem yack (t : MTerm) (hc : t.sz < 2 ^ 62) : zas Tryz.prog (om Tryz.prog) 155 [zaf t] ⟨0, []⟩ = some (.int .i64 t.dp, ⟨0, []⟩) := by
 refine zcc (Q := fun t => t.sz < 2 ^ 62 → zas Tryz.prog (om Tryz.prog) 155 [zaf t] ⟨0, []⟩ = some (.int .i64 t.dp, ⟨0, []⟩)) (fun t ih hc => ?_) t hc
 have hs := zeq t
 have L := yan7 t.pl t.sub (by omega) (fun x hx => ih x hx (by have := zix hx; omega)) 0 (Nat.zero_le _) 0
 rw [zvp, Nat.zero_max] at L
 have hd := yasz t
 rw [yan9] at hd ⊢
 simp only [zaf, zah, List.drop_zero, Int.natCast_zero] at L
 rw [yam7 _ _ (by simp)]
 simp (maxSteps := 1000000) -implicitDefEqProofs only [↓reduceIte, ↓cond_true, ↓cond_false, sr1, sr2, kA, seval, d155, n155, e155, zaf, zah, L, wi_nat (show MTerm.dpL t.sub < 2 ^ 62 by omega)]
theorem zdq (n : Int) : zas Tryz.prog (om Tryz.prog) 170 [.int .i64 n] ⟨0, []⟩ = some (.bool (inR n 1 64), ⟨0, []⟩) := by
 rw [yane _ _ (by simp)]
 simp (maxSteps := 1000000) -implicitDefEqProofs only [↓reduceIte, ↓cond_true, ↓cond_false, sr1, sr2, kA, seval, d170, n170, inR]
theorem ztq (n : Int) : zas Tryz.prog (om Tryz.prog) 183 [.int .i64 n] ⟨0, []⟩ = some (.bool (zl5 n), ⟨0, []⟩) := by
 rw [yanp _ _ (by simp)]
 simp (maxSteps := 1000000) -implicitDefEqProofs only [↓reduceIte, ↓cond_true, ↓cond_false, sr1, sr2, kA, seval, d183, n183, zl5, Bool.or_assoc]
theorem yaui (w b : Int) : zas Tryz.prog (om Tryz.prog) 172 [.int .i64 w, .int .u64 b] ⟨0, []⟩ = some (.bool (okB w b), ⟨0, []⟩) := by
 rw [yang _ _ (by simp)]
 simp (maxSteps := 1000000) -implicitDefEqProofs only [↓reduceIte, ↓cond_true, ↓cond_false, sr1, sr2, kA, seval, d172, n172, zsn, zrd, okB]
theorem szR : (((ByteArray.mk #[114, 46]).size : Nat) : Int) = 2 := rfl
theorem yal2 {s : ByteArray} {n : Nat} (h : n ≤ s.size) : sslK (.str s) none (some (.int .i64 (n : Int))) = some (.str (s.extract 0 n)) := by
 simp [sslK, zba, h]
theorem yal3 {s : ByteArray} {n : Nat} (h : n ≤ s.size) : sslK (.str s) (some (.int .i64 (n : Int))) none = some (.str (s.extract n s.size)) := by
 simp [sslK, zba, h]
theorem zq7 (s : ByteArray) : zas Tryz.prog (om Tryz.prog) 187 [.str s, .str (ByteArray.mk #[114, 46])] ⟨0, []⟩ = some (.bool (decide (2 ≤ s.size) && decide (s.extract 0 2 = rDot)), ⟨0, []⟩) := by
 rw [yant _ _ (by simp)]
 by_cases h : 2 ≤ s.size
 ·have h1 : decide ((2 : Int) ≤ (s.size : Int)) = true := decide_eq_true (by omega)
  have h2 := yal2 h
  simp only [Int.cast_ofNat_Int] at h2
  simp (maxSteps := 1000000) -implicitDefEqProofs only [↓reduceIte, ↓cond_true, ↓cond_false, sr1, sr2, kA, seval, d187, n187, szR, h1, h, h2, rDot]
  rfl
 ·have h1 : decide ((2 : Int) ≤ (s.size : Int)) = false := decide_eq_false (by omega)
  simp (maxSteps := 1000000) -implicitDefEqProofs only [↓reduceIte, ↓cond_true, ↓cond_false, sr1, sr2, kA, seval, d187, n187, szR, h1, h]
theorem yajm (s : ByteArray) : zas Tryz.prog (om Tryz.prog) 185 [.str s, .str (ByteArray.mk #[114, 46])] ⟨0, []⟩ = some (.str (zr2 s), ⟨0, []⟩) := by
 have hp := zq7 s
 rw [yanr _ _ (by simp)]
 cases hb : (decide (2 ≤ s.size) && decide (s.extract 0 2 = rDot)) with
 | true =>
  have h : 2 ≤ s.size := by simp at hb; exact hb.1
  have h2 := yal3 h
  simp only [Int.cast_ofNat_Int] at h2
  simp (maxSteps := 1000000) -implicitDefEqProofs only [↓reduceIte, ↓cond_true, ↓cond_false, sr1, sr2, kA, seval, d185, n185, szR, hp, hb, h2, zr2]
 | false => simp (maxSteps := 1000000) -implicitDefEqProofs only [↓reduceIte, ↓cond_true, ↓cond_false, sr1, sr2, kA, seval, d185, n185, szR, hp, hb, zr2]
theorem yafz (s : ByteArray) : zas Tryz.prog (om Tryz.prog) 180 [.str s, .str (ByteArray.mk #[114, 46])] ⟨0, []⟩ = some (.str (zr2 s), ⟨0, []⟩) := by
 rw [yanm _ _ (by simp)]
 simp (maxSteps := 1000000) -implicitDefEqProofs only [↓reduceIte, ↓cond_true, ↓cond_false, sr1, sr2, kA, seval, d180, n180, yajm]
theorem yaf0 (s : ByteArray) : (zr2 s).size ≤ s.size := by
 unfold zr2
 cases (decide (2 ≤ s.size) && decide (s.extract 0 2 = rDot)) <;> simp
theorem yajn (s : ByteArray) (hs : s.size < 2 ^ 62) : zas Tryz.prog (om Tryz.prog) 173 [.str s] ⟨0, []⟩ = some (.bool (varB s), ⟨0, []⟩) := by
 have := yaf0 s
 rw [yanh _ _ (by simp)]
 simp (maxSteps := 1000000) -implicitDefEqProofs only [↓reduceIte, ↓cond_true, ↓cond_false, sr1, sr2, kA, seval, d173, n173, yafz, zmm _ (show (zr2 s).size < 2 ^ 62 by omega), varB]
theorem yaim (t : MTerm) (w : Int) : zas Tryz.prog (om Tryz.prog) 182 [zaf t, .ptr 0 0] ⟨1, [some (.cells 3 [.int .i64 w])]⟩ = some (.bool (!decide (t.wd = w)), ⟨1, [some (.cells 3 [.int .i64 w])]⟩) := by
 rw [yano _ _ (by simp)]
 simp (maxSteps := 1000000) -implicitDefEqProofs only [↓reduceIte, ↓cond_true, ↓cond_false, sr1, sr2, kA, seval, d182, n182, zaf, zah]
def idxP {α : Type} (q : α → Bool) : List α → Nat → Int
 | [], _ => -1
 | x :: l, i => bif q x then (i : Int) else idxP q l (i + 1)
theorem yade {α : Type} {q : α → Bool} {l : List α} {i : Nat} (h : i < l.length) : idxP q (l.drop i) i = bif q l[i] then (i : Int) else idxP q (l.drop (i + 1)) (i + 1) := by
 rw [List.drop_eq_getElem_cons h]; rfl
theorem zx5 {α : Type} {q : α → Bool} : ∀ {l : List α} {i : Nat}, decide (0 ≤ idxP q l i) = l.any q
 | [], i => rfl
 | x :: l, i => by
  simp only [idxP, List.any_cons]
  by_cases e : q x = true
  ·simp only [e, cond_true, Bool.true_or]; exact decide_eq_true (by omega)
  ·rw [Bool.not_eq_true] at e
   simp only [e, cond_false, Bool.false_or]; exact zx5
theorem yahs (p : Pl) (l : List MTerm) (hl : l.length < 2 ^ 62) (w : Int) : ∀ i, i ≤ l.length → nxt (lim (some []) 1 (blk 0 (om Tryz.prog ⟨186, none⟩ 1 (.loop (lpb Tryz.f186 0)) ⟨⟨19, [(0, .rsl (slA p l) p.cap 6 (l.map zaf)), (1, .func 182 [] [.ptr 0 0]), (7, .int .i64 l.length), (8, .int .i64 i)]⟩, [], ⟨1, [some (.cells 3 [.int .i64 w])]⟩⟩))) (Ox Tryz.prog ⟨186, none⟩ 1 (.seq (za7 Tryz.f186 7) .ret)) = some (.ret, ⟨⟨19, [(4, .int .i64 (idxP (fun y => !decide (y.wd = w)) (l.drop i) i))]⟩, [], ⟨1, [some (.cells 3 [.int .i64 w])]⟩⟩) := by
 have hq := fun t => yaim t w
 simp only [zaf, zah] at hq
 refine zbl ?_ (fun i h ih => ?_) <;> rw [zac]
 ·simp (maxSteps := 1000000) -implicitDefEqProofs only [↓reduceIte, ↓cond_true, ↓cond_false, sr1, sr2, kA, seval, d186, n186, e186, List.drop_length, idxP]
 ·simp (maxSteps := 1000000) -implicitDefEqProofs only [↓reduceIte, ↓cond_true, ↓cond_false, sr1, sr2, kA, seval, d186, n186, e186, dlt_t h, wi_nat (show i < 2 ^ 62 by omega), Go.Proofs.YtibehelnfbcnjaaGreatDoor.v.ix_sl zab h, zaf, zah, hq, ih, yade h]
theorem zzv (p : Pl) (l : List MTerm) (hl : l.length < 2 ^ 62) (w : Int) : zas Tryz.prog (om Tryz.prog) 186 [.rsl (slA p l) p.cap 6 (l.map zaf), .func 182 [] [.ptr 0 0]] ⟨1, [some (.cells 3 [.int .i64 w])]⟩ = some (.int .i64 (idxP (fun y => !decide (y.wd = w)) l 0), ⟨1, [some (.cells 3 [.int .i64 w])]⟩) := by
 have L := yahs p l hl w 0 (Nat.zero_le _)
 simp only [Int.natCast_zero, List.drop_zero] at L
 rw [yans _ _ (by simp)]
 simp (maxSteps := 1000000) -implicitDefEqProofs only [↓reduceIte, ↓cond_true, ↓cond_false, sr1, sr2, kA, seval, d186, n186, e186, L]
theorem zqs (p : Pl) (l : List MTerm) (hl : l.length < 2 ^ 62) (w : Int) : zas Tryz.prog (om Tryz.prog) 181 [.rsl (slA p l) p.cap 6 (l.map zaf), .func 182 [] [.ptr 0 0]] ⟨1, [some (.cells 3 [.int .i64 w])]⟩ = some (.bool (l.any fun y => !decide (y.wd = w)), ⟨1, [some (.cells 3 [.int .i64 w])]⟩) := by
 rw [yann _ _ (by simp)]
 simp (maxSteps := 1000000) -implicitDefEqProofs only [↓reduceIte, ↓cond_true, ↓cond_false, sr1, sr2, kA, seval, d181, n181, zzv p l hl w, zx5]
set_option maxHeartbeats 4000000
theorem zce {t : MTerm} {i : Nat} (h : i < t.sub.length) : zgq t i = t.sub[i].wd := by simp [zgq, h]
theorem yamh {α : Type} {q : α → Bool} {l : List α} : (!l.any fun y => !q y) = l.all q := by
 induction l with
 | nil => rfl
 | cons x l ih => rw [List.any_cons, List.all_cons, ← ih]; cases q x <;> simp
theorem zcu {t : MTerm} {i : Nat} (h : i < t.sub.length) : ixA 6 (.rsl (slA t.pl t.sub) t.pl.cap 6 (t.sub.map zaf)) (.int .i64 (i : Int)) = some (.rptr (adr (slA t.pl t.sub) (i * 6)) t.sub[i].cs) := Go.Proofs.YtibehelnfbcnjaaGreatDoor.v.ix_sl zab h
theorem yajw (t : MTerm) (h3 : 2 < t.sub.length) : zas Tryz.prog (om Tryz.prog) 174 [zaf t, .int .i64 3] ⟨0, []⟩ = some (.bool (zcf t 3), ⟨0, []⟩) := by
 have i0 := zcu (show 0 < t.sub.length by omega)
 have w0 := zce (show 0 < t.sub.length by omega)
 have i1 := zcu (show 1 < t.sub.length by omega)
 have w1 := zce (show 1 < t.sub.length by omega)
 have i2 := zcu h3
 have w2 := zce h3
 simp only [Int.natCast_zero, Int.natCast_one, Int.cast_ofNat_Int] at i0 i1 i2
 rw [zvf _ _ (by simp)]
 cases c1 : decide (t.sub[0].wd = 1) with
 | false => simp (maxSteps := 1000000) -implicitDefEqProofs only [↓reduceIte, ↓cond_true, ↓cond_false, sr1, sr2, kA, seval, d174, zg1, zek, n174, zhe, zaf, zah, i0, i1, i2, w0, w1, w2, zcf, c1]
 | true =>
  cases c2 : decide (t.sub[1].wd = t.wd) with
  | false => simp (maxSteps := 1000000) -implicitDefEqProofs only [↓reduceIte, ↓cond_true, ↓cond_false, sr1, sr2, kA, seval, d174, zg1, zek, n174, zhe, zaf, zah, i0, i1, i2, w0, w1, w2, zcf, c1, c2]
  | true => simp (maxSteps := 1000000) -implicitDefEqProofs only [↓reduceIte, ↓cond_true, ↓cond_false, sr1, sr2, kA, seval, d174, zg1, zek, n174, zhe, zaf, zah, i0, i1, i2, w0, w1, w2, zcf, c1, c2]
theorem yajx (t : MTerm) (h3 : 1 < t.sub.length) : zas Tryz.prog (om Tryz.prog) 174 [zaf t, .int .i64 4] ⟨0, []⟩ = some (.bool (zcf t 4), ⟨0, []⟩) := by
 have i0 := zcu (show 0 < t.sub.length by omega)
 have w0 := zce (show 0 < t.sub.length by omega)
 have i1 := zcu h3
 have w1 := zce h3
 simp only [Int.natCast_zero, Int.natCast_one, Int.cast_ofNat_Int] at i0 i1
 rw [zvf _ _ (by simp)]
 cases c1 : inR t.sub[0].wd 1 64 with
 | false => simp (maxSteps := 1000000) -implicitDefEqProofs only [↓reduceIte, ↓cond_true, ↓cond_false, sr1, sr2, kA, seval, d174, zg1, zek, n174, zhe, zaf, zah, i0, i1, w0, w1, zcf, c1, zdq]
 | true =>
  cases c2 : inR t.sub[1].wd 1 64 with
  | false => simp (maxSteps := 1000000) -implicitDefEqProofs only [↓reduceIte, ↓cond_true, ↓cond_false, sr1, sr2, kA, seval, d174, zg1, zek, n174, zhe, zaf, zah, i0, i1, w0, w1, zcf, c1, c2, zdq]
  | true => simp (maxSteps := 1000000) -implicitDefEqProofs only [↓reduceIte, ↓cond_true, ↓cond_false, sr1, sr2, kA, seval, d174, zg1, zek, n174, zhe, zaf, zah, i0, i1, w0, w1, zcf, c1, c2, zdq]
theorem yaa5 (t : MTerm) (how : Int) (hl : t.sub.length < 2 ^ 62) (h0 : 0 < t.sub.length) (h2 : how = 2 ∨ how = 4 → 1 < t.sub.length) (h3 : how = 3 → 2 < t.sub.length) : zas Tryz.prog (om Tryz.prog) 174 [zaf t, .int .i64 how] ⟨0, []⟩ = some (.bool (zcf t how), ⟨0, []⟩) := by
 have i0 := zcu h0
 have w0 := zce h0
 have hC := zqs t.pl t.sub hl t.wd
 simp only [Int.natCast_zero] at i0
 by_cases e3 : how = 3
 ·subst e3
  exact yajw t (h3 rfl)
 by_cases e4 : how = 4
 ·subst e4
  exact yajx t (h2 (.inr rfl))
 rw [zvf _ _ (by simp)]
 by_cases e1 : how = 1
 ·subst e1
  simp (maxSteps := 1000000) -implicitDefEqProofs only [↓reduceIte, ↓cond_true, ↓cond_false, sr1, sr2, kA, seval, d174, zg1, zek, n174, zhe, zaf, zah, i0, hC, yamh, zcf]
 by_cases e2 : how = 2
 ·subst e2
  have i1 := zcu (h2 (.inl rfl))
  have w1 := zce (h2 (.inl rfl))
  simp only [Int.natCast_one] at i1
  simp (maxSteps := 1000000) -implicitDefEqProofs only [↓reduceIte, ↓cond_true, ↓cond_false, sr1, sr2, kA, seval, d174, zg1, zek, n174, zhe, zaf, zah, i0, i1, w0, w1, zcf]
 by_cases e5 : how = 5
 ·subst e5
  simp (maxSteps := 1000000) -implicitDefEqProofs only [↓reduceIte, ↓cond_true, ↓cond_false, sr1, sr2, kA, seval, d174, zg1, zek, n174, zhe, zaf, zah, i0, w0, zcf, zdq, Bool.and_assoc]
 by_cases e6 : how = 6
 ·subst e6
  simp (maxSteps := 1000000) -implicitDefEqProofs only [↓reduceIte, ↓cond_true, ↓cond_false, sr1, sr2, kA, seval, d174, zg1, zek, n174, zhe, zaf, zah, i0, w0, zcf]
 have f1 := decide_eq_false e1
 have f2 := decide_eq_false e2
 have f3 := decide_eq_false e3
 have f4 := decide_eq_false e4
 have f5 := decide_eq_false e5
 have f6 := decide_eq_false e6
 simp (maxSteps := 1000000) -implicitDefEqProofs only [↓reduceIte, ↓cond_true, ↓cond_false, sr1, sr2, kA, seval, d174, zg1, zek, n174, zhe, zaf, zah, i0, w0, f1, f2, f3, f4, f5, f6, ztq, zcf]
theorem yajo : Tryz.prog.underlying 244 = some (.array 25 236) := by kernel_rfl
theorem yapv : za0 Tryz.prog 236 = some 3 := by kernel_rfl
theorem yafi (k : Nat) (h : k < 25) : ∃ w rest, shapesC.drop (k * 3) = .str w :: .int .i64 (partL.getD k 0) :: .int .i64 (howL.getD k 0) :: rest := by
 have hk : k = 0 ∨ k = 1 ∨ k = 2 ∨ k = 3 ∨ k = 4 ∨ k = 5 ∨ k = 6 ∨ k = 7 ∨ k = 8 ∨ k = 9 ∨ k = 10 ∨ k = 11 ∨ k = 12 ∨ k = 13 ∨ k = 14 ∨ k = 15 ∨ k = 16 ∨ k = 17 ∨ k = 18 ∨ k = 19 ∨ k = 20 ∨ k = 21 ∨ k = 22 ∨ k = 23 ∨ k = 24 := by omega
 rcases hk with rfl | rfl | rfl | rfl | rfl | rfl | rfl | rfl | rfl | rfl | rfl | rfl | rfl | rfl | rfl | rfl | rfl | rfl | rfl | rfl | rfl | rfl | rfl | rfl | rfl <;> exact ⟨_, _, rfl⟩
def rowW (k : Int) : ByteArray := match (shapesC.drop (k.toNat * 3)) with | .str w :: _ => w | _ => ByteArray.empty
theorem yavl {k : Int} (h0 : 0 ≤ k) (h : k ≤ 24) : ∃ rest, shapesC.drop (k.toNat * 3) = .str (rowW k) :: .int .i64 (zer k) :: .int .i64 (howK k) :: rest := by
 obtain ⟨w, rest, e⟩ := yafi k.toNat (by omega)
 exact ⟨rest, by unfold rowW; rw [e]; rfl⟩
theorem yay1 {a : Addr} {cs : List AV} {k : Int} (h0 : 0 ≤ k) (h : k ≤ 24) : za8 Tryz.prog 244 (.rptr a cs) (.int .u8 k) = some (.rptr (a.add (k.toNat * 3)) (cs.drop (k.toNat * 3))) :=
 yay0 yajo yapv (by simp; omega)
theorem yaaq (k : Int) (h0 : 0 ≤ k) : zas Tryz.prog (om Tryz.prog) 171 [.int .u8 k] ⟨0, []⟩ = some (.tup [.agg (bif decide (k ≤ 24) then [.str (rowW k), .int .i64 (zer k), .int .i64 (howK k)] else [.str ByteArray.empty, .int .i64 0, .int .i64 0]), .bool (zdh k)], ⟨0, []⟩) := by
 rw [yanf _ _ (by simp)]
 by_cases h : k ≤ 24
 ·obtain ⟨rest, e⟩ := yavl h0 h
  have h1 : decide (24 < k) = false := decide_eq_false (by omega)
  simp (maxSteps := 1000000) -implicitDefEqProofs only [↓reduceIte, ↓cond_true, ↓cond_false, sr1, sr2, kA, seval, d171, yalr, yakh, n171, h1, h, yac1, glob, yay1 h0 h, e, zdh, show 3 ≤ rest.length + 1 + 1 + 1 by omega]
 ·have h1 : decide (24 < k) = true := decide_eq_true (by omega)
  simp (maxSteps := 1000000) -implicitDefEqProofs only [↓reduceIte, ↓cond_true, ↓cond_false, sr1, sr2, kA, seval, d171, yalr, yakh, n171, h1, h, zdh]
theorem yaeo : ∀ k : Nat, k < 25 → ((howL.getD k 0 = 2 ∨ howL.getD k 0 = 4 → 1 < partL.getD k 0) ∧ (howL.getD k 0 = 3 → 2 < partL.getD k 0)) := by decide
theorem yaip (t : MTerm) (hk : 0 ≤ t.kd) (hn : t.nm.size < 2 ^ 62) (hl : t.sub.length < 2 ^ 62) : zas Tryz.prog (om Tryz.prog) 157 [zaf t] ⟨0, []⟩ = some (.bool (zic t), ⟨0, []⟩) := by
 have hs := yaaq t.kd hk
 rw [yam9 _ _ (by simp)]
 cases hw : inR t.wd 1 64 with
 | false => simp (maxSteps := 1000000) -implicitDefEqProofs only [↓reduceIte, ↓cond_true, ↓cond_false, sr1, sr2, kA, seval, d157, n157, zyc, zaf, zah, zdq, hw, zic]
 | true =>
 cases hb : zdh t.kd with
 | false =>
  simp (maxSteps := 1000000) -implicitDefEqProofs only [↓reduceIte, ↓cond_true, ↓cond_false, sr1, sr2, kA, seval, d157, n157, zyc, zaf, zah, zdq, hw, hs, hb, yaui, yajn _ hn, zic, Bool.and_assoc]
 | true =>
  have hb' : t.kd ≤ 24 ∧ 0 < zer t.kd := by simpa [zdh] using hb
  have hd : decide (t.kd ≤ 24) = true := decide_eq_true hb'.1
  cases hp : decide ((t.sub.length : Int) = zer t.kd) with
  | false => simp (maxSteps := 1000000) -implicitDefEqProofs only [↓reduceIte, ↓cond_true, ↓cond_false, sr1, sr2, kA, seval, d157, n157, zyc, zaf, zah, zdq, hw, hs, hb, hd, hp, zic, Bool.and_assoc]
  | true =>
   have hp' := of_decide_eq_true hp
   have ph := yaeo t.kd.toNat (by omega)
   have hW := yaa5 t (howK t.kd) hl (by omega) (fun e => by have := ph.1 e; unfold zer at hp'; omega) (fun e => by have := ph.2 e; unfold zer at hp'; omega)
   simp only [zaf, zah] at hW
   simp (maxSteps := 1000000) -implicitDefEqProofs only [↓reduceIte, ↓cond_true, ↓cond_false, sr1, sr2, kA, seval, d157, n157, zyc, zaf, zah, zdq, hw, hs, hb, hd, hp, hW, zic, Bool.and_assoc]
def zqb (T : List Bn) : Blk := .map (zjc AV.str (AV.int .i64) 0 T) T.length
theorem yawo : Blk.map [] 0 = zqb [] := rfl
theorem zan {T : List Bn} : (zqb T).refs = [] := zqv (fun _ => rfl) (fun _ => rfl)
theorem zav {T : List Bn} {ρ : Nat → Nat} : (zqb T).ren ρ = zqb T := yacp (fun _ => rfl) (fun _ => rfl)
theorem yawp {T : List Bn} {n : ByteArray} {z : Int} : lkK .str (.int .i64 z) (.str n) false (entB (some (zqb T))) = some (.int .i64 ((zdx n T).getD z)) := by
 unfold zqb; rw [entB_some, lk_some kf_str]; exact yald zv1
theorem zwu {T : List Bn} {n : ByteArray} {z : Int} : lkK .str (.int .i64 z) (.str n) true (entB (some (zqb T))) = some (.tup [.int .i64 ((zdx n T).getD z), .bool (zdx n T).isSome]) := by
 unfold zqb; rw [entB_some, lk_some kf_str]; exact yaos zv1
theorem zqc {T : List Bn} {n : ByteArray} {w : Int} {H : Heap} {b : Nat} : muO .str H b (.str n) (.int .i64 w) (some (zqb T)) = some (H.set b (zqb (zoo n w T))) := by
 unfold zqb; rw [mu_some kf_str]; exact yalh zv1 rfl
def zjf : List Bn → List MTerm → Bool × List Bn
 | T, [] => (true, T)
 | T, x :: l => bif decide (x.kd = 2) then (bif (zdx x.nm T).isSome && !decide ((zdx x.nm T).getD 0 = x.wd) then (false, T) else zjf (zoo x.nm x.wd T) l) else zjf T l
theorem zr5 : ∀ {a : List MTerm} {T : List Bn} {b : List MTerm}, zjf T (a ++ b) = bif (zjf T a).1 then zjf (zjf T a).2 b else (false, (zjf T a).2)
 | [], T, b => rfl
 | x :: a, T, b => by
  simp only [List.cons_append, zjf]
  cases decide (x.kd = 2) with
  | false => exact zr5
  | true =>
   cases ((zdx x.nm T).isSome && !decide ((zdx x.nm T).getD 0 = x.wd)) with
   | false => exact zr5
   | true => rfl
noncomputable abbrev hvL (ok : Bool) : Blk := .loop (bif ok then .ready else .done) (bif ok then none else some .ret) 158 ⟨35, [(2, .ptr 1 0), (3, .ptr 2 0), (4, .ptr 3 0), (10, .func 168 [] [.ptr 4 0])]⟩ [11] (lpa Tryz.f158 0) (lpb Tryz.f158 0) 5
noncomputable abbrev hv (t : MTerm) (ok : Bool) (T : List Bn) : Heap := ⟨7, [some (hvL ok), some (.cells 99 [.map none]), some (.cells 4 [.bool false]), some (.cells 99 [.map (some 6)]), some (.cells 81 t.cs), some .dfr, some (zqb T)]⟩
theorem yajs (t0 : MTerm) (p : Pl) (l : List MTerm) (hl : l.length < 2 ^ 62) (hS : ∀ x ∈ l, ∀ T, zas Tryz.prog (om Tryz.prog) 169 [zaf x, .yieldf 0] (hv t0 true T) = bif (zjf T x.nodes).1 then some (.bool true, hv t0 true (zjf T x.nodes).2) else some (.bool false, hv t0 false (zjf T x.nodes).2)) :
  ∀ i, i ≤ l.length → ∀ T, lim (some []) 7 (blk 0 (om Tryz.prog ⟨169, none⟩ 7 (.loop (lpb Tryz.f169 0)) ⟨⟨23, [(1, .yieldf 0), (12, .rsl (slA p l) p.cap 6 (l.map zaf)), (13, .int .i64 l.length), (14, .int .i64 i)]⟩, [], hv t0 true T⟩)) =
   bif (zjf T ((l.drop i).flatMap MTerm.nodes)).1 then some (.normal, ⟨⟨23, []⟩, [], hv t0 true (zjf T ((l.drop i).flatMap MTerm.nodes)).2⟩) else some (.ret, ⟨⟨23, [(4, .bool false)]⟩, [], hv t0 false (zjf T ((l.drop i).flatMap MTerm.nodes)).2⟩) := by
 refine zbl (fun T => ?_) (fun i h ih T => ?_) <;> rw [zac]
 ·simp (maxSteps := 1000000) -implicitDefEqProofs only [↓reduceIte, ↓cond_true, ↓cond_false, sr1, sr2, kA, seval, zvo, zv6, zvr, List.drop_length, zah, hv, hvL, zan, zav, zjf]
 ·have hx := hS l[i] (List.getElem_mem h) T
  have L := ih (zjf T l[i].nodes).2
  rw [List.drop_eq_getElem_cons h, List.flatMap_cons, zr5]
  simp only [hv, hvL, zaf, zah, cond_true, cond_false] at hx L
  cases hr : (zjf T l[i].nodes).1 with
  | true =>
   rw [hr] at hx
   simp (maxSteps := 1000000) -implicitDefEqProofs only [↓reduceIte, ↓cond_true, ↓cond_false, sr1, sr2, kA, seval, zvo, zv6, zvr, dlt_t h, wi_nat (show i < 2 ^ 62 by omega), Go.Proofs.YtibehelnfbcnjaaGreatDoor.v.ix_sl zab h, zaf, zah, hv, hvL, zan, zav, hx, L]
  | false =>
   rw [hr] at hx
   simp (maxSteps := 1000000) -implicitDefEqProofs only [↓reduceIte, ↓cond_true, ↓cond_false, sr1, sr2, kA, seval, zvo, zv6, zvr, dlt_t h, wi_nat (show i < 2 ^ 62 by omega), Go.Proofs.YtibehelnfbcnjaaGreatDoor.v.ix_sl zab h, zaf, zah, hv, hvL, zan, zav, hx, L]
theorem yaa2 (t0 : MTerm) : ∀ t : MTerm, t.sz < 2 ^ 62 → ∀ T, zas Tryz.prog (om Tryz.prog) 169 [zaf t, .yieldf 0] (hv t0 true T) = bif (zjf T t.nodes).1 then some (.bool true, hv t0 true (zjf T t.nodes).2) else some (.bool false, hv t0 false (zjf T t.nodes).2) := by
 intro t
 refine zcc (Q := fun t => t.sz < 2 ^ 62 → ∀ T, zas Tryz.prog (om Tryz.prog) 169 [zaf t, .yieldf 0] (hv t0 true T) = bif (zjf T t.nodes).1 then some (.bool true, hv t0 true (zjf T t.nodes).2) else some (.bool false, hv t0 false (zjf T t.nodes).2)) (fun t ih hc T => ?_) t
 have hs := zeq t
 have L := fun T => yajs t0 t.pl t.sub (by omega) (fun x hx => ih x hx (by have := zix hx; omega)) 0 (Nat.zero_le _) T
 simp only [hv, hvL, zaf, zah, List.drop_zero, Int.natCast_zero, cond_true, cond_false] at L
 rw [zgd, zjf]
 rw [zve _ _ (by simp)]
 cases hk : decide (t.kd = 2) with
 | false => simp (maxSteps := 1000000) -implicitDefEqProofs only [↓reduceIte, ↓cond_true, ↓cond_false, sr1, sr2, kA, seval, zvo, zv6, zvr, d158, zn6, zn7, n158, e158, zaf, zah, hv, hvL, zan, zav, hk, L]
 | true =>
  cases hb : (zdx t.nm T).isSome with
  | false => simp (maxSteps := 1000000) -implicitDefEqProofs only [↓reduceIte, ↓cond_true, ↓cond_false, sr1, sr2, kA, seval, zvo, zv6, zvr, d158, zn6, zn7, n158, e158, zaf, zah, hv, hvL, zan, zav, zwu, zqc, hk, hb, L]
  | true =>
   cases he : decide ((zdx t.nm T).getD 0 = t.wd) with
   | false => simp (maxSteps := 1000000) -implicitDefEqProofs only [↓reduceIte, ↓cond_true, ↓cond_false, sr1, sr2, kA, seval, zvo, zv6, zvr, d158, zn6, zn7, n158, e158, zaf, zah, hv, hvL, zan, zav, zwu, zqc, hk, hb, he, L]
   | true => simp (maxSteps := 1000000) -implicitDefEqProofs only [↓reduceIte, ↓cond_true, ↓cond_false, sr1, sr2, kA, seval, zvo, zv6, zvr, d158, zn6, zn7, n158, e158, zaf, zah, hv, hvL, zan, zav, zwu, zqc, hk, hb, he, L]
theorem yajq (t : MTerm) (hc : t.sz < 2 ^ 62) : zas Tryz.prog (om Tryz.prog) 158 [zaf t] ⟨0, []⟩ = bif (zjf [] t.nodes).1 then some (.tup [.map (some 0), .bool true], ⟨1, [some (zqb (zjf [] t.nodes).2)]⟩) else some (.tup [.map none, .bool false], ⟨0, []⟩) := by
 have hn := znv t
 have hv' := yaa2 t t hc []
 simp only [hv, hvL, zaf, zah, cond_true, cond_false] at hn hv'
 rw [yana _ _ (by simp)]
 simp (maxSteps := 1000000) -implicitDefEqProofs only [↓reduceIte, ↓cond_true, ↓cond_false, sr1, sr2, kA, seval, d158, zn6, zn7, n158, e158, zaf, zah, hn, yawo, zan, zav]
 rw [zm3 _ _ (by simp)]
 cases hr : (zjf [] t.nodes).1 with
 | true =>
  rw [hr] at hv'
  simp (maxSteps := 1000000) -implicitDefEqProofs only [↓reduceIte, ↓cond_true, ↓cond_false, sr1, sr2, kA, seval, d168, n168, d158, zn6, zn7, n158, e158, zaf, zah, hv', zan, zav]
 | false =>
  rw [hr] at hv'
  simp (maxSteps := 1000000) -implicitDefEqProofs only [↓reduceIte, ↓cond_true, ↓cond_false, sr1, sr2, kA, seval, d168, n168, d158, zn6, zn7, n158, e158, zaf, zah, hv', zan, zav]
structure TOk (t : MTerm) : Prop where
 sz : t.sz < 2 ^ 62
 kd : ∀ x ∈ t.nodes, 0 ≤ x.kd
 nm : ∀ x ∈ t.nodes, x.nm.size < 2 ^ 62
theorem TOk.sub {t x : MTerm} (h : TOk t) (hx : x ∈ t.sub) : TOk x :=
 ⟨by have := zix hx; have := h.sz; omega, fun y hy => h.kd y (zfu hx hy), fun y hy => h.nm y (zfu hx hy)⟩
noncomputable abbrev hkL (ok : Bool) : Blk := .loop (bif ok then .ready else .done) (bif ok then none else some .ret) 140 ⟨27, [(1, .ptr 1 0), (2, .ptr 2 0), (15, .func 168 [] [.ptr 3 0])]⟩ [16] (lpa Tryz.f140 0) (lpb Tryz.f140 0) 4
noncomputable abbrev hkk (t : MTerm) (ok : Bool) : Heap := ⟨5, [some (hkL ok), some (.cells 81 t.cs), some (.cells 34 [.int .i64 (bif ok then 0 else 8)]), some (.cells 81 t.cs), some .dfr]⟩
theorem yajr (t0 : MTerm) (p : Pl) (l : List MTerm) (hl : l.length < 2 ^ 62) (hS : ∀ x ∈ l, zas Tryz.prog (om Tryz.prog) 169 [zaf x, .yieldf 0] (hkk t0 true) = bif zb6 x then some (.bool true, hkk t0 true) else some (.bool false, hkk t0 false)) :
  ∀ i, i ≤ l.length → lim (some []) 5 (blk 0 (om Tryz.prog ⟨169, none⟩ 5 (.loop (lpb Tryz.f169 0)) ⟨⟨23, [(1, .yieldf 0), (12, .rsl (slA p l) p.cap 6 (l.map zaf)), (13, .int .i64 l.length), (14, .int .i64 i)]⟩, [], hkk t0 true⟩)) =
   bif (l.drop i).all zb6 then some (.normal, ⟨⟨23, []⟩, [], hkk t0 true⟩) else some (.ret, ⟨⟨23, [(4, .bool false)]⟩, [], hkk t0 false⟩) := by
 refine zbl ?_ (fun i h ih => ?_) <;> rw [zac]
 ·simp (maxSteps := 1000000) -implicitDefEqProofs only [↓reduceIte, ↓cond_true, ↓cond_false, sr1, sr2, kA, seval, zvo, zv6, zvr, List.drop_length, zah, hkk, hkL]
 ·have hx := hS l[i] (List.getElem_mem h)
  have L := ih
  rw [List.drop_eq_getElem_cons h, List.all_cons]
  simp only [hkk, hkL, zaf, zah, cond_true, cond_false] at hx L
  cases hr : zb6 l[i] with
  | true =>
   rw [hr] at hx
   simp (maxSteps := 1000000) -implicitDefEqProofs only [↓reduceIte, ↓cond_true, ↓cond_false, sr1, sr2, kA, seval, zvo, zv6, zvr, dlt_t h, wi_nat (show i < 2 ^ 62 by omega), Go.Proofs.YtibehelnfbcnjaaGreatDoor.v.ix_sl zab h, zaf, zah, hkk, hkL, hx, L]
  | false =>
   rw [hr] at hx
   simp (maxSteps := 1000000) -implicitDefEqProofs only [↓reduceIte, ↓cond_true, ↓cond_false, sr1, sr2, kA, seval, zvo, zv6, zvr, dlt_t h, wi_nat (show i < 2 ^ 62 by omega), Go.Proofs.YtibehelnfbcnjaaGreatDoor.v.ix_sl zab h, zaf, zah, hkk, hkL, hx, L]
theorem yaa1 (t0 : MTerm) : ∀ t : MTerm, TOk t → zas Tryz.prog (om Tryz.prog) 169 [zaf t, .yieldf 0] (hkk t0 true) = bif zb6 t then some (.bool true, hkk t0 true) else some (.bool false, hkk t0 false) := by
 intro t
 refine zcc (Q := fun t => TOk t → zas Tryz.prog (om Tryz.prog) 169 [zaf t, .yieldf 0] (hkk t0 true) = bif zb6 t then some (.bool true, hkk t0 true) else some (.bool false, hkk t0 false)) (fun t ih ho => ?_) t
 have hs := zeq t
 have hz := ho.sz
 have L := yajr t0 t.pl t.sub (by omega) (fun x hx => ih x hx (ho.sub hx)) 0 (Nat.zero_le _)
 have hN := yaip t (ho.kd t (zep t)) (ho.nm t (zep t)) (by omega)
 simp only [hkk, hkL, zaf, zah, List.drop_zero, Int.natCast_zero, cond_true, cond_false] at L hN
 have e : zb6 t = (zic t && t.sub.all zb6) := zcx t
 rw [e]
 rw [zve _ _ (by simp)]
 cases hk : zic t with
 | false =>
  rw [hk] at hN
  simp (maxSteps := 1000000) -implicitDefEqProofs only [↓reduceIte, ↓cond_true, ↓cond_false, sr1, sr2, kA, seval, zvo, zv6, zvr, d140, zkf, n140, e140, zaf, zah, hkk, hkL, hN]
 | true =>
  rw [hk] at hN
  simp (maxSteps := 1000000) -implicitDefEqProofs only [↓reduceIte, ↓cond_true, ↓cond_false, sr1, sr2, kA, seval, zvo, zv6, zvr, d140, zkf, n140, e140, zaf, zah, hkk, hkL, hN, L]
theorem zkr : ∀ {l : List MTerm} {T : List Bn}, (zjf T l).1 = zpg T ((l.filter fun x => decide (x.kd = 2)).map fun x => (x.nm, x.wd))
 | [], T => rfl
 | x :: l, T => by
  simp only [zjf]
  cases hk : decide (x.kd = 2) with
  | false => simp only [cond_false, List.filter_cons, hk, Bool.false_eq_true, if_false]; exact zkr
  | true =>
   simp only [cond_true, List.filter_cons, hk, if_true, List.map_cons, zpg]
   cases hg : zdx x.nm T with
   | none => simp only [Option.isSome_none, Bool.false_and, cond_false, Bool.true_and]; exact zkr
   | some w =>
    simp only [Option.isSome_some, Option.getD_some, Bool.true_and]
    cases decide (w = x.wd) with
    | false => rfl
    | true => simp only [Bool.not_true, cond_false, Bool.true_and]; exact zkr
theorem yaaw (t : MTerm) (ho : TOk t) : zas Tryz.prog (om Tryz.prog) 140 [zaf t] ⟨0, []⟩ = some (.int .i64 (zla t), ⟨0, []⟩) := by
 have hn := znv t
 have hv' := yaa1 t t ho
 have hz := yajb t ho.sz
 have hd := yack t ho.sz
 have hr := yajq t ho.sz
 have ev : (zjf [] t.nodes).1 = zpg [] (zgi t) := zkr
 rw [ev] at hr
 simp only [hkk, hkL, zaf, zah, cond_true, cond_false] at hn hv' hz hd hr
 rw [yam2 _ _ (by simp)]
 cases hs : zpe t with
 | true =>
  have hs' := hs
  unfold zpe at hs'
  simp (maxSteps := 1000000) -implicitDefEqProofs only [↓reduceIte, ↓cond_true, ↓cond_false, sr1, sr2, kA, seval, d140, zkf, n140, e140, zaf, zah, hz, hd, hs', zla, hs]
 | false =>
  have hs' := hs
  unfold zpe at hs'
  simp only [Bool.or_eq_false_iff] at hs'
  have i1 : (zb6 t) = t.nodes.all zic := rfl
  cases hb : zb6 t with
  | false =>
   rw [hb] at hv'
   simp (maxSteps := 1000000) -implicitDefEqProofs only [↓reduceIte, ↓cond_true, ↓cond_false, sr1, sr2, kA, seval, d140, zkf, n140, e140, zaf, zah, hz, hd, hs'.1, hs'.2, zla, hs, hn, hb]
   rw [zm3 _ _ (by simp)]
   simp (maxSteps := 1000000) -implicitDefEqProofs only [↓reduceIte, ↓cond_true, ↓cond_false, sr1, sr2, kA, seval, d168, n168, d140, zkf, n140, e140, zaf, zah, hv']
  | true =>
   rw [hb] at hv'
   cases hw : zpg [] (zgi t) with
   | true =>
    rw [hw] at hr
    simp (maxSteps := 1000000) -implicitDefEqProofs only [↓reduceIte, ↓cond_true, ↓cond_false, sr1, sr2, kA, seval, d140, zkf, n140, e140, zaf, zah, hz, hd, hs'.1, hs'.2, zla, hs, hn, hb, hw]
    rw [zm3 _ _ (by simp)]
    simp (maxSteps := 1000000) -implicitDefEqProofs only [↓reduceIte, ↓cond_true, ↓cond_false, sr1, sr2, kA, seval, d168, n168, d140, zkf, n140, e140, zaf, zah, hv', hr, zan, zav]
   | false =>
    rw [hw] at hr
    simp (maxSteps := 1000000) -implicitDefEqProofs only [↓reduceIte, ↓cond_true, ↓cond_false, sr1, sr2, kA, seval, d140, zkf, n140, e140, zaf, zah, hz, hd, hs'.1, hs'.2, zla, hs, hn, hb, hw]
    rw [zm3 _ _ (by simp)]
    simp (maxSteps := 1000000) -implicitDefEqProofs only [↓reduceIte, ↓cond_true, ↓cond_false, sr1, sr2, kA, seval, d168, n168, d140, zkf, n140, e140, zaf, zah, hv', hr, zan, zav]
theorem zze {a b : Nat} (h : a + b < 2 ^ 62) : IntKind.i64.wrap ((a : Int) + (b : Int)) = ((a + b : Nat) : Int) := by
 rw [zdr (by omega) (by omega)]; omega
abbrev tH (t : MTerm) : Heap := ⟨1, [some (.cells 81 t.cs)]⟩
theorem yapy (t : MTerm) (hz : t.sz < 2 ^ 62) (hS : ∀ x ∈ t.sub, zas Tryz.prog (om Tryz.prog) 51 [zaf x] ⟨0, []⟩ = some (.int .i64 x.sz, ⟨0, []⟩)) :
  ∀ i, i ≤ t.sub.length → ∀ c : Nat, c + szL (t.sub.drop i) < 2 ^ 62 → lim (some [3]) 0 (blk 0 (om Tryz.prog ⟨51, none⟩ 0 (.loop (lpb Tryz.f51 0)) ⟨⟨21, [(1, .ptr 0 0), (3, .int .i64 c), (4, .int .i64 i)]⟩, [], tH t⟩)) = some (.normal, ⟨⟨21, [(3, .int .i64 ((c + szL (t.sub.drop i) : Nat) : Int))]⟩, [], ⟨0, []⟩⟩) := by
 have hs := zeq t
 refine zbl (fun c hc => ?_) (fun i h ih c hc => ?_) <;> rw [zac]
 ·simp (maxSteps := 1000000) -implicitDefEqProofs only [↓reduceIte, ↓cond_true, ↓cond_false, sr1, sr2, kA, seval, d51, n51, e51, tH, zah, List.drop_length, yafv]
 ·have e : szL (t.sub.drop i) = t.sub[i].sz + szL (t.sub.drop (i + 1)) := by rw [List.drop_eq_getElem_cons h, zd7]
  rw [e] at hc ⊢
  have hx := hS t.sub[i] (List.getElem_mem h)
  have L := ih (c + t.sub[i].sz) (by omega)
  rw [Nat.add_assoc] at L
  simp only [tH, zaf, zah] at hx L
  simp (maxSteps := 1000000) -implicitDefEqProofs only [↓reduceIte, ↓cond_true, ↓cond_false, sr1, sr2, kA, seval, d51, n51, e51, tH, dlt_t h, wi_nat (show i < 2 ^ 62 by omega), zcu h, zaf, zah, hx, zze (show c + t.sub[i].sz < 2 ^ 62 by omega), L]
theorem zkl (t : MTerm) (hc : t.sz < 2 ^ 62) : zas Tryz.prog (om Tryz.prog) 51 [zaf t] ⟨0, []⟩ = some (.int .i64 t.sz, ⟨0, []⟩) := by
 refine zcc (Q := fun t => t.sz < 2 ^ 62 → zas Tryz.prog (om Tryz.prog) 51 [zaf t] ⟨0, []⟩ = some (.int .i64 t.sz, ⟨0, []⟩)) (fun t ih hc => ?_) t hc
 have hz := zr0 t
 have L := yapy t hc (fun x hx => ih x hx (by have := zix hx; omega)) 0 (Nat.zero_le _) 1 (by rw [List.drop_zero]; omega)
 rw [List.drop_zero, show 1 + szL t.sub = t.sz by omega] at L
 simp only [tH, zaf, zah, Int.natCast_zero, Int.natCast_one] at L
 rw [yaru _ _ (by simp)]
 simp (maxSteps := 1000000) -implicitDefEqProofs only [↓reduceIte, ↓cond_true, ↓cond_false, sr1, sr2, kA, seval, d51, n51, e51, zaf, zah, L]
theorem yag8 (t : MTerm) (hz : t.sz < 2 ^ 62) (hS : ∀ x ∈ t.sub, zas Tryz.prog (om Tryz.prog) 159 [zaf x] ⟨0, []⟩ = some (.int .i64 x.dp, ⟨0, []⟩)) :
  ∀ i, i ≤ t.sub.length → ∀ d : Nat, lim (some [3]) 0 (blk 0 (om Tryz.prog ⟨159, none⟩ 0 (.loop (lpb Tryz.f159 0)) ⟨⟨22, [(1, .ptr 0 0), (3, .int .i64 d), (4, .int .i64 i)]⟩, [], tH t⟩)) = some (.normal, ⟨⟨22, [(3, .int .i64 (dpF d (t.sub.drop i)))]⟩, [], ⟨0, []⟩⟩) := by
 have hs := zeq t
 refine zbl (fun d => ?_) (fun i h ih d => ?_) <;> rw [zac]
 ·simp (maxSteps := 1000000) -implicitDefEqProofs only [↓reduceIte, ↓cond_true, ↓cond_false, sr1, sr2, kA, seval, d159, n159, e159, tH, zah, yacl]
 ·have hx := hS t.sub[i] (List.getElem_mem h)
  have L := ih (max d t.sub[i].dp)
  rw [zxr h]
  simp only [tH, zaf, zah] at hx L
  simp (maxSteps := 1000000) -implicitDefEqProofs only [↓reduceIte, ↓cond_true, ↓cond_false, sr1, sr2, kA, seval, d159, n159, e159, tH, dlt_t h, wi_nat (show i < 2 ^ 62 by omega), zcu h, zaf, zah, hx, yali, L]
theorem zzn (t : MTerm) (hc : t.sz < 2 ^ 62) : zas Tryz.prog (om Tryz.prog) 159 [zaf t] ⟨0, []⟩ = some (.int .i64 t.dp, ⟨0, []⟩) := by
 refine zcc (Q := fun t => t.sz < 2 ^ 62 → zas Tryz.prog (om Tryz.prog) 159 [zaf t] ⟨0, []⟩ = some (.int .i64 t.dp, ⟨0, []⟩)) (fun t ih hc => ?_) t hc
 have L := yag8 t hc (fun x hx => ih x hx (by have := zix hx; omega)) 0 (Nat.zero_le _) 0
 rw [zvp, Nat.zero_max] at L
 have hd := yasz t
 rw [yan9] at hd ⊢
 simp only [tH, zaf, zah, List.drop_zero, Int.natCast_zero] at L
 rw [yanb _ _ (by simp)]
 simp (maxSteps := 1000000) -implicitDefEqProofs only [↓reduceIte, ↓cond_true, ↓cond_false, sr1, sr2, kA, seval, d159, n159, e159, zaf, zah, L, wi_nat (show MTerm.dpL t.sub < 2 ^ 62 by omega)]
theorem zcs (n : Int) : zas Tryz.prog (om Tryz.prog) 175 [.int .i64 n] ⟨0, []⟩ = some (.bool (inR n 1 64), ⟨0, []⟩) := by
 rw [yani _ _ (by simp)]
 simp (maxSteps := 1000000) -implicitDefEqProofs only [↓reduceIte, ↓cond_true, ↓cond_false, sr1, sr2, kA, seval, d175, n175, inR]
theorem zhb (n : Int) : zas Tryz.prog (om Tryz.prog) 178 [.int .i64 n] ⟨0, []⟩ = some (.bool (zl5 n), ⟨0, []⟩) := by
 rw [yanl _ _ (by simp)]
 simp (maxSteps := 1000000) -implicitDefEqProofs only [↓reduceIte, ↓cond_true, ↓cond_false, sr1, sr2, kA, seval, d178, n178, zl5, Bool.or_assoc]
theorem yawu {n : Int} (h0 : 0 ≤ n) (h1 : n < 18446744073709551616) : IntKind.u64.wrap n = n := by
 simp only [IntKind.wrap, IntKind.bits, IntKind.signed]
 simp
 omega
theorem yawv {i : Nat} (h : i < 63) : IntKind.u64.wrap (((2 ^ i : Nat) : Int) + ((2 ^ i : Nat) : Int)) = ((2 ^ (i + 1) : Nat) : Int) := by
 have h1 : 2 ^ (i + 1) < 18446744073709551616 := Nat.lt_of_lt_of_le (Nat.pow_lt_pow_right (by decide) (show i + 1 < 64 by omega)) (by decide)
 have e : (((2 ^ i : Nat) : Int) + ((2 ^ i : Nat) : Int)) = ((2 ^ (i + 1) : Nat) : Int) := by rw [Nat.pow_succ]; omega
 rw [e]
 generalize 2 ^ (i + 1) = m at h1 ⊢
 exact yawu (by omega) (by omega)
theorem yaex (n : Nat) (hn : n ≤ 63) : ∀ i, i ≤ n → lim (some [3]) 0 (blk 0 (om Tryz.prog ⟨184, none⟩ 0 (.loop (lpb Tryz.f184 0)) ⟨⟨14, [(0, .int .i64 n), (3, .int .u64 (2 ^ i : Nat)), (4, .int .i64 i)]⟩, [], ⟨0, []⟩⟩)) = some (.normal, ⟨⟨14, [(3, .int .u64 (2 ^ n : Nat))]⟩, [], ⟨0, []⟩⟩) := by
 refine zbl ?_ (fun i h ih => ?_) <;> rw [zac]
 ·simp (maxSteps := 1000000) -implicitDefEqProofs only [↓reduceIte, ↓cond_true, ↓cond_false, sr1, sr2, kA, seval, d184, n184, e184, ]
 ·simp (maxSteps := 1000000) -implicitDefEqProofs only [↓reduceIte, ↓cond_true, ↓cond_false, sr1, sr2, kA, seval, d184, n184, e184, dlt_t h, wi_nat (show i < 2 ^ 62 by omega), yawv (show i < 63 by omega), ih]
theorem zwh (n : Nat) (hn : n ≤ 63) : zas Tryz.prog (om Tryz.prog) 184 [.int .i64 n] ⟨0, []⟩ = some (.int .u64 (2 ^ n : Nat), ⟨0, []⟩) := by
 have L := yaex n hn 0 (Nat.zero_le _)
 rw [Nat.pow_zero, Int.natCast_zero, Int.natCast_one] at L
 rw [yanq _ _ (by simp)]
 simp (maxSteps := 1000000) -implicitDefEqProofs only [↓reduceIte, ↓cond_true, ↓cond_false, sr1, sr2, kA, seval, d184, n184, e184, L]
theorem zya {n : Nat} (h1 : 1 ≤ n) (h2 : n ≤ 64) : zi6 (n : Int) = ((2 ^ n - 1 : Nat) : Int) := by
 unfold zi6
 rw [if_pos (by simp [inR]; omega), show (64 - (n : Int)).toNat = 64 - n by omega]
 have : 18446744073709551615 / 2 ^ (64 - n) = 2 ^ n - 1 := by
  have e : 18446744073709551615 = 2 ^ 64 - 1 := by decide
  have e2 : 2 ^ 64 = 2 ^ n * 2 ^ (64 - n) := by rw [← Nat.pow_add]; congr 1; omega
  have p1 : 0 < 2 ^ (64 - n) := Nat.two_pow_pos _
  have p2 : 0 < 2 ^ n := Nat.two_pow_pos _
  rw [e, e2]
  rw [show 2 ^ n * 2 ^ (64 - n) - 1 = (2 ^ n - 1) * 2 ^ (64 - n) + (2 ^ (64 - n) - 1) by
   rw [Nat.sub_mul, Nat.one_mul]
   have : 2 ^ (64 - n) ≤ 2 ^ n * 2 ^ (64 - n) := Nat.le_mul_of_pos_left _ p2
   omega]
  rw [Nat.add_comm, Nat.add_mul_div_right _ _ p1, Nat.div_eq_of_lt (by omega), Nat.zero_add]
 rw [← this, Int.natCast_ediv]; rfl
theorem yauh (w b : Int) (hb : b < 18446744073709551616) : okB w b = (inR w 1 64 && (decide (w = 64) || decide (b < (2 ^ w.toNat : Nat)))) := by
 unfold okB
 cases h : inR w 1 64 with
 | false => rfl
 | true =>
  have hw : 1 ≤ w ∧ w ≤ 64 := by simpa [inR] using h
  obtain ⟨n, rfl⟩ := Int.eq_ofNat_of_zero_le (show 0 ≤ w by omega)
  rw [zya (by omega) (by omega), Int.toNat_natCast, Bool.true_and, Bool.true_and, Bool.eq_iff_iff, decide_eq_true_iff, Bool.or_eq_true, decide_eq_true_iff, decide_eq_true_iff]
  have p := Nat.two_pow_pos n
  by_cases e : n = 64
  ·subst e
   have e2 : ((2 ^ 64 - 1 : Nat) : Int) = 18446744073709551615 := by decide
   rw [e2]; omega
  ·omega
theorem zj9 (w b : Int) (hb : b < 18446744073709551616) : zas Tryz.prog (om Tryz.prog) 176 [.int .i64 w, .int .u64 b] ⟨0, []⟩ = some (.bool (okB w b), ⟨0, []⟩) := by
 rw [yauh w b hb]
 rw [yanj _ _ (by simp)]
 cases h : inR w 1 64 with
 | false => simp (maxSteps := 1000000) -implicitDefEqProofs only [↓reduceIte, ↓cond_true, ↓cond_false, sr1, sr2, kA, seval, d176, n176, zcs, h]
 | true =>
  cases h6 : decide (w = 64) with
  | true => simp (maxSteps := 1000000) -implicitDefEqProofs only [↓reduceIte, ↓cond_true, ↓cond_false, sr1, sr2, kA, seval, d176, n176, zcs, h, h6]
  | false =>
   have hw : 1 ≤ w ∧ w ≤ 64 := by simpa [inR] using h
   have h6' := of_decide_eq_false h6
   have hp := zwh w.toNat (by omega)
   rw [show ((w.toNat : Nat) : Int) = w by omega] at hp
   simp (maxSteps := 1000000) -implicitDefEqProofs only [↓reduceIte, ↓cond_true, ↓cond_false, sr1, sr2, kA, seval, d176, n176, zcs, h, h6, hp]
theorem zcl (s : ByteArray) (hs : s.size < 2 ^ 62) : zas Tryz.prog (om Tryz.prog) 177 [.str s] ⟨0, []⟩ = some (.bool (varB s), ⟨0, []⟩) := by
 rw [← yaqe]
 rw [yank _ _ (by simp)]
 by_cases h : 2 < s.size
 ·have h1 : decide ((2 : Int) < (s.size : Int)) = true := decide_eq_true (by omega)
  have h2 := yal2 (show 2 ≤ s.size by omega)
  have h3 := yal3 (show 2 ≤ s.size by omega)
  simp only [Int.cast_ofNat_Int] at h2 h3
  have hn := zc8 (s.extract 2 s.size) (by simp; omega)
  have hm := zc8 s hs
  cases hd : decide (s.extract 0 2 = rDot) with
  | true => simp (maxSteps := 1000000) -implicitDefEqProofs only [↓reduceIte, ↓cond_true, ↓cond_false, sr1, sr2, kA, seval, d177, n177, h1, h2, h3, h, varC, hn, hm, hd, show (ByteArray.mk #[114, 46]) = rDot from rfl]
  | false => simp (maxSteps := 1000000) -implicitDefEqProofs only [↓reduceIte, ↓cond_true, ↓cond_false, sr1, sr2, kA, seval, d177, n177, h1, h2, h3, h, varC, hn, hm, hd, show (ByteArray.mk #[114, 46]) = rDot from rfl]
 ·have h1 : decide ((2 : Int) < (s.size : Int)) = false := decide_eq_false (by omega)
  have hm := zc8 s hs
  simp (maxSteps := 1000000) -implicitDefEqProofs only [↓reduceIte, ↓cond_true, ↓cond_false, sr1, sr2, kA, seval, d177, n177, h1, h, varC, hm]
theorem yahi (t : MTerm) (hz : t.sz < 2 ^ 62) (hS : ∀ x ∈ t.sub, zas Tryz.prog (om Tryz.prog) 160 [zaf x] ⟨0, []⟩ = some (.bool (zde x), ⟨0, []⟩)) :
  ∀ i, i ≤ t.sub.length → lim (some [1]) 0 (blk 0 (om Tryz.prog ⟨160, none⟩ 0 (.loop (lpb Tryz.f160 0)) ⟨⟨236, [(1, .ptr 0 0), (3, .int .i64 i)]⟩, [], tH t⟩)) = bif (t.sub.drop i).all zde then some (.normal, ⟨⟨236, [(1, .ptr 0 0)]⟩, [], tH t⟩) else some (.ret, ⟨⟨236, [(2, .bool false)]⟩, [], ⟨0, []⟩⟩) := by
 have hs := zeq t
 refine zbl ?_ (fun i h ih => ?_) <;> rw [zac]
 ·simp (maxSteps := 1000000) -implicitDefEqProofs only [↓reduceIte, ↓cond_true, ↓cond_false, sr1, sr2, kA, seval, d160, zjq, n160, zj3, zj4, zj5, zj6, e160, tH, zah, List.drop_length]
 ·have hx := hS t.sub[i] (List.getElem_mem h)
  have L := ih
  rw [List.drop_eq_getElem_cons h, List.all_cons]
  simp only [tH, zaf, zah] at hx L
  cases hr : zde t.sub[i] with
  | true =>
   rw [hr] at hx
   simp (maxSteps := 1000000) -implicitDefEqProofs only [↓reduceIte, ↓cond_true, ↓cond_false, sr1, sr2, kA, seval, d160, zjq, n160, zj3, zj4, zj5, zj6, e160, tH, dlt_t h, wi_nat (show i < 2 ^ 62 by omega), zcu h, zaf, zah, hx, L]
  | false =>
   rw [hr] at hx
   simp (maxSteps := 1000000) -implicitDefEqProofs only [↓reduceIte, ↓cond_true, ↓cond_false, sr1, sr2, kA, seval, d160, zjq, n160, zj3, zj4, zj5, zj6, e160, tH, dlt_t h, wi_nat (show i < 2 ^ 62 by omega), zcu h, zaf, zah, hx]
structure NOk (t : MTerm) : Prop where
 kd : 0 ≤ t.kd
 b1 : t.bt < 18446744073709551616
 nm : t.nm.size < 2 ^ 62
theorem yata (t : MTerm) (ho : NOk t) (hl : t.sub.length = 0) (L : lim (some [1]) 0 (blk 0 (om Tryz.prog ⟨160, none⟩ 0 (.loop (lpb Tryz.f160 0)) ⟨⟨236, [(1, .ptr 0 0), (3, .int .i64 0)]⟩, [], tH t⟩)) = some (.normal, ⟨⟨236, [(1, .ptr 0 0)]⟩, [], tH t⟩)) : zas Tryz.prog (om Tryz.prog) 160 [zaf t] ⟨0, []⟩ = some (.bool (zf7 t), ⟨0, []⟩) := by
 have l1 : (t.sub.length : Int) = 0 := by omega
 simp only [tH, zah, Int.natCast_zero, Int.natCast_one, Int.cast_ofNat_Int] at L
 rw [zkx _ _ (by simp)]
 simp (maxSteps := 1000000) -implicitDefEqProofs only [↓reduceIte, ↓cond_true, ↓cond_false, sr1, sr2, kA, seval, d160, zjq, n160, zj3, zj4, zj5, zj6, e160, tH, zaf, zah, L, l1, zcs, zj9 _ _ ho.b1, zcl _ ho.nm, zhb, zf7, Bool.and_assoc, Bool.or_assoc]
theorem yatb (t : MTerm) (ho : NOk t) (hl : t.sub.length = 1) (L : lim (some [1]) 0 (blk 0 (om Tryz.prog ⟨160, none⟩ 0 (.loop (lpb Tryz.f160 0)) ⟨⟨236, [(1, .ptr 0 0), (3, .int .i64 0)]⟩, [], tH t⟩)) = some (.normal, ⟨⟨236, [(1, .ptr 0 0)]⟩, [], tH t⟩)) : zas Tryz.prog (om Tryz.prog) 160 [zaf t] ⟨0, []⟩ = some (.bool (zf7 t), ⟨0, []⟩) := by
 have i0 := zcu (show 0 < t.sub.length by omega)
 have w0 := zce (show 0 < t.sub.length by omega)
 have l1 : (t.sub.length : Int) = 1 := by omega
 simp only [tH, zah, Int.natCast_zero, Int.natCast_one, Int.cast_ofNat_Int] at L i0
 rw [zkx _ _ (by simp)]
 simp (maxSteps := 1000000) -implicitDefEqProofs only [↓reduceIte, ↓cond_true, ↓cond_false, sr1, sr2, kA, seval, d160, zjq, n160, zj3, zj4, zj5, zj6, e160, tH, zaf, zah, L, i0, w0, l1, zcs, zj9 _ _ ho.b1, zcl _ ho.nm, zhb, zf7, Bool.and_assoc, Bool.or_assoc]
theorem yatc (t : MTerm) (ho : NOk t) (hl : t.sub.length = 2) (L : lim (some [1]) 0 (blk 0 (om Tryz.prog ⟨160, none⟩ 0 (.loop (lpb Tryz.f160 0)) ⟨⟨236, [(1, .ptr 0 0), (3, .int .i64 0)]⟩, [], tH t⟩)) = some (.normal, ⟨⟨236, [(1, .ptr 0 0)]⟩, [], tH t⟩)) : zas Tryz.prog (om Tryz.prog) 160 [zaf t] ⟨0, []⟩ = some (.bool (zf7 t), ⟨0, []⟩) := by
 have i0 := zcu (show 0 < t.sub.length by omega)
 have w0 := zce (show 0 < t.sub.length by omega)
 have i1 := zcu (show 1 < t.sub.length by omega)
 have w1 := zce (show 1 < t.sub.length by omega)
 have l1 : (t.sub.length : Int) = 2 := by omega
 simp only [tH, zah, Int.natCast_zero, Int.natCast_one, Int.cast_ofNat_Int] at L i0 i1
 rw [zkx _ _ (by simp)]
 simp (maxSteps := 1000000) -implicitDefEqProofs only [↓reduceIte, ↓cond_true, ↓cond_false, sr1, sr2, kA, seval, d160, zjq, n160, zj3, zj4, zj5, zj6, e160, tH, zaf, zah, L, i0, i1, w0, w1, l1, zcs, zj9 _ _ ho.b1, zcl _ ho.nm, zhb, zf7, Bool.and_assoc, Bool.or_assoc]
theorem yatd (t : MTerm) (ho : NOk t) (hl : t.sub.length = 3) (L : lim (some [1]) 0 (blk 0 (om Tryz.prog ⟨160, none⟩ 0 (.loop (lpb Tryz.f160 0)) ⟨⟨236, [(1, .ptr 0 0), (3, .int .i64 0)]⟩, [], tH t⟩)) = some (.normal, ⟨⟨236, [(1, .ptr 0 0)]⟩, [], tH t⟩)) : zas Tryz.prog (om Tryz.prog) 160 [zaf t] ⟨0, []⟩ = some (.bool (zf7 t), ⟨0, []⟩) := by
 have i0 := zcu (show 0 < t.sub.length by omega)
 have w0 := zce (show 0 < t.sub.length by omega)
 have i1 := zcu (show 1 < t.sub.length by omega)
 have w1 := zce (show 1 < t.sub.length by omega)
 have i2 := zcu (show 2 < t.sub.length by omega)
 have w2 := zce (show 2 < t.sub.length by omega)
 have l1 : (t.sub.length : Int) = 3 := by omega
 simp only [tH, zah, Int.natCast_zero, Int.natCast_one, Int.cast_ofNat_Int] at L i0 i1 i2
 rw [zkx _ _ (by simp)]
 simp (maxSteps := 1000000) -implicitDefEqProofs only [↓reduceIte, ↓cond_true, ↓cond_false, sr1, sr2, kA, seval, d160, zjq, n160, zj3, zj4, zj5, zj6, e160, tH, zaf, zah, L, i0, i1, i2, w0, w1, w2, l1, zcs, zj9 _ _ ho.b1, zcl _ ho.nm, zhb, zf7, Bool.and_assoc, Bool.or_assoc]
theorem yate (t : MTerm) (ho : NOk t) (hl : 4 ≤ t.sub.length) (L : lim (some [1]) 0 (blk 0 (om Tryz.prog ⟨160, none⟩ 0 (.loop (lpb Tryz.f160 0)) ⟨⟨236, [(1, .ptr 0 0), (3, .int .i64 0)]⟩, [], tH t⟩)) = some (.normal, ⟨⟨236, [(1, .ptr 0 0)]⟩, [], tH t⟩)) : zas Tryz.prog (om Tryz.prog) 160 [zaf t] ⟨0, []⟩ = some (.bool (zf7 t), ⟨0, []⟩) := by
 have i0 := zcu (show 0 < t.sub.length by omega)
 have w0 := zce (show 0 < t.sub.length by omega)
 have l0 : decide ((t.sub.length : Int) = 0) = false := decide_eq_false (by omega)
 have l1 : decide ((t.sub.length : Int) = 1) = false := decide_eq_false (by omega)
 have l2 : decide ((t.sub.length : Int) = 2) = false := decide_eq_false (by omega)
 have l3 : decide ((t.sub.length : Int) = 3) = false := decide_eq_false (by omega)
 simp only [tH, zah, Int.natCast_zero] at L i0
 rw [zkx _ _ (by simp)]
 simp (maxSteps := 1000000) -implicitDefEqProofs only [↓reduceIte, ↓cond_true, ↓cond_false, sr1, sr2, kA, seval, d160, zjq, n160, zj3, zj4, zj5, zj6, e160, tH, zaf, zah, L, i0, w0, l0, l1, l2, l3, zcs, zj9 _ _ ho.b1, zcl _ ho.nm, zhb, zf7, Bool.and_assoc, Bool.or_assoc]
structure FOk (t : MTerm) : Prop where
 sz : t.sz < 2 ^ 62
 n : ∀ x ∈ t.nodes, NOk x
theorem FOk.sub {t x : MTerm} (h : FOk t) (hx : x ∈ t.sub) : FOk x :=
 ⟨by have := zix hx; have := h.sz; omega, fun y hy => h.n y (zfu hx hy)⟩
theorem FOk.t {t : MTerm} (h : FOk t) : TOk t := ⟨h.sz, fun x hx => (h.n x hx).kd, fun x hx => (h.n x hx).nm⟩
theorem zzq (t : MTerm) (ho : FOk t) : zas Tryz.prog (om Tryz.prog) 160 [zaf t] ⟨0, []⟩ = some (.bool (zde t), ⟨0, []⟩) := by
 refine zcc (Q := fun t => FOk t → zas Tryz.prog (om Tryz.prog) 160 [zaf t] ⟨0, []⟩ = some (.bool (zde t), ⟨0, []⟩)) (fun t ih ho => ?_) t ho
 have L := yahi t ho.sz (fun x hx => ih x hx (ho.sub hx)) 0 (Nat.zero_le _)
 have e : zde t = (zf7 t && t.sub.all zde) := zcx t
 have hn := ho.n t (zep t)
 rw [List.drop_zero] at L
 rw [e]
 cases hb : t.sub.all zde with
 | true =>
  rw [hb] at L
  simp only [cond_true, Int.natCast_zero] at L
  rw [Bool.and_true]
  rcases (show t.sub.length = 0 ∨ t.sub.length = 1 ∨ t.sub.length = 2 ∨ t.sub.length = 3 ∨ 4 ≤ t.sub.length by omega) with h | h | h | h | h
  ·exact yata t hn h L
  ·exact yatb t hn h L
  ·exact yatc t hn h L
  ·exact yatd t hn h L
  ·exact yate t hn h L
 | false =>
  rw [hb] at L
  simp only [tH, zah, cond_false, Int.natCast_zero] at L
  rw [zkx _ _ (by simp)]
  simp (maxSteps := 1000000) -implicitDefEqProofs only [↓reduceIte, ↓cond_true, ↓cond_false, sr1, sr2, kA, seval, d160, zjq, n160, zj3, zj4, zj5, zj6, e160, tH, zaf, zah, L]
def ze8 (l : List MTerm) : List Bn := l.flatMap zgi
theorem yaju (t : MTerm) : zgi t = (bif decide (t.kd = 2) then [(t.nm, t.wd)] else []) ++ ze8 t.sub := by
 unfold zgi ze8
 rw [zgd, List.filter_cons]
 have : ∀ l : List MTerm, ((l.flatMap MTerm.nodes).filter fun x => decide (x.kd = 2)).map (fun x => (x.nm, x.wd)) = l.flatMap zgi := by
  intro l
  induction l with
  | nil => rfl
  | cons x l ih => rw [List.flatMap_cons, List.filter_append, List.map_append, ih]; rfl
 cases h : decide (t.kd = 2) with
 | true => simp only [if_true, List.map_cons, cond_true, List.cons_append, List.nil_append, this]
 | false => simp only [Bool.false_eq_true, if_false, cond_false, List.nil_append, this]
theorem zkq (t : MTerm) : (zgi t).length ≤ t.sz := by
 unfold zgi; rw [List.length_map]; exact List.length_filter_le ..
theorem yaa4 : ∀ l : List MTerm, (ze8 l).length ≤ szL l
 | [] => by simp [ze8]
 | x :: l => by
  have h1 := yaa4 l
  have h2 := zkq x
  unfold ze8 at h1 ⊢
  rw [List.flatMap_cons, List.length_append, zd7]; omega
def bnC : List Bn → List AV
 | [] => []
 | x :: l => .str x.1 :: .int .i64 x.2 :: .int .u64 0 :: bnC l
theorem yamr : bnC [] = [] := rfl
theorem zxf {x : Bn} {l : List Bn} : bnC (x :: l) = .str x.1 :: .int .i64 x.2 :: .int .u64 0 :: bnC l := rfl
theorem yab2 : ∀ {a b : List Bn}, bnC (a ++ b) = bnC a ++ bnC b
 | [], b => rfl
 | x :: a, b => by rw [List.cons_append, bnC, yab2]; rfl
theorem zvc : ∀ {l : List Bn}, (bnC l).length = l.length * 3
 | [] => rfl
 | x :: l => by rw [bnC, List.length_cons, List.length_cons, List.length_cons, zvc, List.length_cons]; omega
theorem zby : ∀ {l : List Bn}, AV.refsL (bnC l) = []
 | [] => rfl
 | x :: l => by rw [bnC, refsL_cons, refsL_cons, refsL_cons, zby]; rfl
theorem zcm {ρ : Nat → Nat} : ∀ {l : List Bn}, AV.renL ρ (bnC l) = bnC l
 | [] => rfl
 | x :: l => by rw [bnC, renL_cons, renL_cons, renL_cons, zcm]; rfl
theorem zsh : ∀ {l : List Bn}, zbo (bnC l) = true
 | [] => rfl
 | x :: l => by
  have := zsh (l := l)
  simp [zbo, zdf, bnC] at this ⊢; exact this
abbrev zye : AV := .rsl none 0 0 []
theorem yaz3 : za0 Tryz.prog 227 = some 3 := by kernel_rfl
theorem yaq8 {H : Heap} {e : TypeId} {w b m : Nat} {cs : List AV} (h : zp8 Tryz.prog H b 0 m 3 = true) : appS Tryz.prog H e 3 w (.sl b 0 m 3) cs 0 = some (.sl b 0 m 3, H) := by
 simp [appS, h]
theorem yamj {H : Heap} {b m k : Nat} {c cs : List AV} (hb : H.get b = some (.cells 227 c)) (hc : c.length = m * 3) (hs : cs.length = k * 3) (hk : k ≠ 0) (hl : zbo cs = true) (hf : m + k ≤ 100000000) :
  appK Tryz.prog H 227 3 32 (.sl b 0 m 3) (some cs) (some k) = some (.sl H.next 0 (m + k) 3, (H.kill b).push (.cells 227 (c ++ cs))) := by
 rw [ap_some (by simp [hs, hl]), ap_sl hk, hb, apO_some ⟨hc, zco hf (by decide)⟩]
theorem yaco {c : List AV} {m : Nat} (h : c.length = m * 3) : elO 3 (some (.cells 227 c)) 0 m = some c := by
 simp [elO, h]
 exact List.take_of_length_le (by omega)
abbrev cs1 (x : Bn) (l : List Bn) : List AV := .str x.1 :: .int .i64 x.2 :: .int .u64 0 :: bnC l
theorem zm8 {x : Bn} {l : List Bn} : (cs1 x l).length = (l.length + 1) * 3 := by simp [cs1, zvc]; omega
theorem zsw {x : Bn} {l : List Bn} : zbo (cs1 x l) = true := zsh (l := x :: l)
def resG (l : List Bn) : Rx := if l = [] then some (.normal, ⟨⟨32, [(3, zye)]⟩, [], ⟨0, []⟩⟩) else some (.normal, ⟨⟨32, [(3, .sl 0 0 l.length 3)]⟩, [], ⟨1, [some (.cells 227 (bnC l))]⟩⟩)
def valG (l : List Bn) : Rv := if l = [] then some (zye, ⟨0, []⟩) else some (.sl 0 0 l.length 3, ⟨1, [some (.cells 227 (bnC l))]⟩)
theorem zys : resG [] = some (.normal, ⟨⟨32, [(3, zye)]⟩, [], ⟨0, []⟩⟩) := rfl
theorem zn9 {x : Bn} {l : List Bn} : resG (x :: l) = some (.normal, ⟨⟨32, [(3, .sl 0 0 (l.length + 1) 3)]⟩, [], ⟨1, [some (.cells 227 (.str x.1 :: .int .i64 x.2 :: .int .u64 0 :: bnC l))]⟩⟩) := rfl
theorem zmu : valG [] = some (zye, ⟨0, []⟩) := rfl
theorem zhs {x : Bn} {l : List Bn} : valG (x :: l) = some (.sl 0 0 (l.length + 1) 3, ⟨1, [some (.cells 227 (.str x.1 :: .int .i64 x.2 :: .int .u64 0 :: bnC l))]⟩) := rfl
abbrev gH (t : MTerm) (x : Bn) (l : List Bn) : Heap := ⟨2, [some (.cells 81 t.cs), some (.cells 227 (.str x.1 :: .int .i64 x.2 :: .int .u64 0 :: bnC l))]⟩
theorem yady (t : MTerm) (hz : t.sz < 1000000) (hS : ∀ x ∈ t.sub, zas Tryz.prog (om Tryz.prog) 161 [zaf x] ⟨0, []⟩ = valG (zgi x)) :
  ∀ i, i ≤ t.sub.length → ∀ y l, l.length + 1 + szL (t.sub.drop i) ≤ 1000000 → lim (some [3]) 0 (blk 0 (om Tryz.prog ⟨161, none⟩ 0 (.loop (lpb Tryz.f161 0)) ⟨⟨32, [(1, .ptr 0 0), (3, .sl 1 0 (l.length + 1) 3), (4, .int .i64 i)]⟩, [], gH t y l⟩)) = resG (y :: (l ++ ze8 (t.sub.drop i))) := by
 have hs := zeq t
 refine zbl (fun y l hc => ?_) (fun i h ih y l hc => ?_) <;> rw [zac]
 ·simp (maxSteps := 1000000) -implicitDefEqProofs only [↓reduceIte, ↓cond_true, ↓cond_false, sr1, sr2, kA, seval, d161, n161, e161, gH, zah, List.drop_length, zn9, zby, zcm, ze8]
 ·have e : szL (t.sub.drop i) = t.sub[i].sz + szL (t.sub.drop (i + 1)) := by rw [List.drop_eq_getElem_cons h, zd7]
  have e2 : ze8 (t.sub.drop i) = zgi t.sub[i] ++ ze8 (t.sub.drop (i + 1)) := by rw [List.drop_eq_getElem_cons h]; rfl
  have hx := hS t.sub[i] (List.getElem_mem h)
  have hv := zkq t.sub[i]
  rw [e] at hc
  rw [e2]
  cases hw : zgi t.sub[i] with
  | nil =>
   have L := ih y l (by omega)
   rw [hw, zmu] at hx
   have a0 := yaq8 (H := gH t y l) (e := 227) (w := 32) (b := 1) (m := l.length + 1) (cs := []) (by simp [zp8, Heap.get, zl2, yaz3, zvc]; omega)
   simp only [gH, zaf, zah] at hx L a0
   simp (maxSteps := 1000000) -implicitDefEqProofs only [↓reduceIte, ↓cond_true, ↓cond_false, sr1, sr2, kA, seval, d161, n161, e161, gH, dlt_t h, wi_nat (show i < 2 ^ 62 by omega), zcu h, zaf, zah, hx, L, a0, zby, zcm]
  | cons z u =>
   rw [hw, zhs] at hx
   rw [hw] at hv
   have hv' : u.length + 1 ≤ t.sub[i].sz := hv
   have L := ih y (l ++ z :: u) (by simp; omega)
   rw [List.append_assoc] at L
   have a0 := yamj (H := ⟨3, [some (.cells 81 t.cs), some (.cells 227 (cs1 y l)), some (.cells 227 (cs1 z u))]⟩) (b := 1) (c := cs1 y l) (cs := cs1 z u) (m := l.length + 1) (k := u.length + 1) rfl zm8 zm8 (by omega) zsw (by omega)
   have a1 := yaco (c := cs1 z u) zm8
   have e3 : l.length + (u.length + 1) + 1 = l.length + 1 + (u.length + 1) := by omega
   simp only [gH, zaf, zah, yab2, zxf, List.length_append, List.length_cons, cs1, e3] at hx L a0 a1
   simp (maxSteps := 1000000) -implicitDefEqProofs only [↓reduceIte, ↓cond_true, ↓cond_false, sr1, sr2, kA, seval, d161, n161, e161, gH, dlt_t h, wi_nat (show i < 2 ^ 62 by omega), zcu h, zaf, zah, hx, a1, a0, L, zby, zcm]
theorem yaor (t : MTerm) (hz : t.sz < 1000000) (hS : ∀ x ∈ t.sub, zas Tryz.prog (om Tryz.prog) 161 [zaf x] ⟨0, []⟩ = valG (zgi x)) :
  ∀ i, i ≤ t.sub.length → szL (t.sub.drop i) ≤ 1000000 → lim (some [3]) 0 (blk 0 (om Tryz.prog ⟨161, none⟩ 0 (.loop (lpb Tryz.f161 0)) ⟨⟨32, [(1, .ptr 0 0), (3, zye), (4, .int .i64 i)]⟩, [], tH t⟩)) = resG (ze8 (t.sub.drop i)) := by
 have hs := zeq t
 refine zbl (fun hc => ?_) (fun i h ih hc => ?_) <;> rw [zac]
 ·simp (maxSteps := 1000000) -implicitDefEqProofs only [↓reduceIte, ↓cond_true, ↓cond_false, sr1, sr2, kA, seval, d161, n161, e161, tH, zye, zah, List.drop_length, zys, ze8]
 ·have e : szL (t.sub.drop i) = t.sub[i].sz + szL (t.sub.drop (i + 1)) := by rw [List.drop_eq_getElem_cons h, zd7]
  have e2 : ze8 (t.sub.drop i) = zgi t.sub[i] ++ ze8 (t.sub.drop (i + 1)) := by rw [List.drop_eq_getElem_cons h]; rfl
  have hx := hS t.sub[i] (List.getElem_mem h)
  have hv := zkq t.sub[i]
  rw [e] at hc
  rw [e2]
  cases hw : zgi t.sub[i] with
  | nil =>
   have L := ih (by omega)
   rw [hw, zmu] at hx
   simp only [tH, zye, zaf, zah] at hx L
   simp (maxSteps := 1000000) -implicitDefEqProofs only [↓reduceIte, ↓cond_true, ↓cond_false, sr1, sr2, kA, seval, d161, n161, e161, tH, zye, dlt_t h, wi_nat (show i < 2 ^ 62 by omega), zcu h, zaf, zah, hx, L]
  | cons z u =>
   rw [hw, zhs] at hx
   rw [hw] at hv
   have hv' : u.length + 1 ≤ t.sub[i].sz := hv
   have L := yady t hz hS (i + 1) h z u (by omega)
   have a1 := yaco (c := cs1 z u) zm8
   have f1 : zos 32 0 (u.length + 1) = true := zco (by omega) (by decide)
   have l1 : zbo (cs1 z u) = true := zsw
   have l2 : decide ((cs1 z u).length = (u.length + 1) * 3) = true := decide_eq_true zm8
   simp only [tH, zye, gH, zaf, zah, cs1] at hx L a1 l1 l2
   have a0 : ∀ H : Heap, appK Tryz.prog H 227 3 32 (.rsl none 0 0 []) (some (.str z.1 :: .int .i64 z.2 :: .int .u64 0 :: bnC u)) (some (u.length + 1)) = some (.sl H.next 0 (u.length + 1) 3, H.push (.cells 227 (.str z.1 :: .int .i64 z.2 :: .int .u64 0 :: bnC u))) := fun H => by
    rw [ap_some (by rw [l2, l1]; rfl), ap_nil, if_neg (by omega), f1]; rfl
   simp (maxSteps := 1000000) -implicitDefEqProofs only [↓reduceIte, ↓cond_true, ↓cond_false, sr1, sr2, kA, seval, d161, n161, e161, tH, zye, dlt_t h, wi_nat (show i < 2 ^ 62 by omega), zcu h, zaf, zah, hx, a1, a0, L, zby, zcm]
theorem yah3 (t : MTerm) (hz : t.sz < 1000000) : zas Tryz.prog (om Tryz.prog) 161 [zaf t] ⟨0, []⟩ = valG (zgi t) := by
 refine zcc (Q := fun t => t.sz < 1000000 → zas Tryz.prog (om Tryz.prog) 161 [zaf t] ⟨0, []⟩ = valG (zgi t)) (fun t ih hz => ?_) t hz
 have hS := fun x (hx : x ∈ t.sub) => ih x hx (by have := zix hx; omega)
 have hq := zr0 t
 rw [yaju]
 rw [yanc _ _ (by simp)]
 cases hk : decide (t.kd = 2) with
 | false =>
  have L := yaor t hz hS 0 (Nat.zero_le _) (by rw [List.drop_zero]; omega)
  rw [List.drop_zero] at L
  simp only [cond_false, List.nil_append]
  cases hv : ze8 t.sub with
  | nil =>
   rw [hv, zys] at L
   simp only [tH, zye, zah, Int.natCast_zero] at L
   simp (maxSteps := 1000000) -implicitDefEqProofs only [↓reduceIte, ↓cond_true, ↓cond_false, sr1, sr2, kA, seval, d161, n161, e161, zaf, zah, hk, L, zmu, zye]
  | cons z u =>
   rw [hv, zn9] at L
   simp only [tH, zye, zah, Int.natCast_zero] at L
   simp (maxSteps := 1000000) -implicitDefEqProofs only [↓reduceIte, ↓cond_true, ↓cond_false, sr1, sr2, kA, seval, d161, n161, e161, zaf, zah, hk, L, zhs, zby, zcm]
 | true =>
  have L := yady t hz hS 0 (Nat.zero_le _) (t.nm, t.wd) [] (by rw [List.drop_zero]; simp; omega)
  rw [List.drop_zero, List.nil_append, zn9] at L
  simp only [gH, zah, Int.natCast_zero, List.length_nil, Nat.zero_add, yamr] at L
  simp only [cond_true, List.cons_append, List.nil_append]
  simp (maxSteps := 1000000) -implicitDefEqProofs only [↓reduceIte, ↓cond_true, ↓cond_false, sr1, sr2, kA, seval, d161, n161, e161, zaf, zah, hk, L, zhs, zby, zcm, zco]
end Go.Proofs.YtibehelnfbcnjaaGreatDoor.v
