/- What the law's proof leans on, part 21. Conditions: in each statement. -/
import Derived.Test.YtcfcphhamfhfcaaGreatDoorQ1
set_option linter.all false
namespace Go.Proofs.YtcfcphhamfhfcaaGreatDoor.v
open Go Go.Ab
set_option maxRecDepth 100000
set_option linter.unusedSimpArgs false
set_option linter.unusedVariables false
def dpF (d : Nat) (l : List MTerm) : Nat := l.foldl (fun d x => max d x.dp) d
theorem zx8 : ∀ (l : List MTerm) (d : Nat), dpF d l = max d (MTerm.dpL l)
 | [], d => by simp [dpF, MTerm.dpL]
 | x :: l, d => by
  have := zx8 l (max d x.dp)
  unfold dpF at this ⊢
  rw [List.foldl_cons, this, zti]; omega
theorem yafl {l : List MTerm} {d : Nat} : dpF d (l.drop l.length) = d := by rw [List.drop_length]; rfl
theorem zz6 {l : List MTerm} {i d : Nat} (h : i < l.length) : dpF d (l.drop i) = dpF (max d l[i].dp) (l.drop (i + 1)) := by rw [List.drop_eq_getElem_cons h]; rfl
theorem yapp {a b : Nat} : (bif decide ((a : Int) < (b : Int)) then (b : Int) else (a : Int)) = ((max a b : Nat) : Int) := by
 by_cases h : (a : Int) < b
 ·rw [decide_eq_true h, cond_true]; omega
 ·rw [decide_eq_false h, cond_false]; omega
theorem yas4 (p : Pl) (l : List MTerm) (hl : l.length < 2 ^ 62) (hS : ∀ x ∈ l, zaq Tryz.prog (om Tryz.prog) 187 [zag x] ⟨0, []⟩ = some (.int .i64 x.dp, ⟨0, []⟩)) :
  ∀ i, i ≤ l.length → ∀ d : Nat, lim (some [3]) 0 (blk 0 (om Tryz.prog ⟨187, none⟩ 0 (.loop (lpb Tryz.f187 0)) ⟨⟨20, [(3, .int .i64 d), (7, .rsl (slA p l) p.cap 6 (l.map zag)), (8, .int .i64 l.length), (9, .int .i64 i)]⟩, [], ⟨0, []⟩⟩)) = some (.normal, ⟨⟨20, [(3, .int .i64 (dpF d (l.drop i)))]⟩, [], ⟨0, []⟩⟩) := by
 refine zb8 (fun d => ?_) (fun i h ih d => ?_) <;> rw [zae]
 ·simp (maxSteps := 1000000) -implicitDefEqProofs only [↓reduceIte, ↓cond_true, ↓cond_false, sr1, sr2, kA, seval, d187, n187, e187, yafl]
 ·have hx := hS l[i] (List.getElem_mem h)
  have L := ih (max d l[i].dp)
  rw [zz6 h]
  simp only [zag, zah] at hx L
  simp (maxSteps := 1000000) -implicitDefEqProofs only [↓reduceIte, ↓cond_true, ↓cond_false, sr1, sr2, kA, seval, d187, n187, e187, dlt_t h, wi_nat (show i < 2 ^ 62 by omega), Go.Proofs.YtcfcphhamfhfcaaGreatDoor.v.ix_sl zab h, zag, zah, hx, L, yapp]
theorem yafk (t : MTerm) (hc : t.sz < 2 ^ 62) : zaq Tryz.prog (om Tryz.prog) 187 [zag t] ⟨0, []⟩ = some (.int .i64 t.dp, ⟨0, []⟩) := by
 refine zda (Q := fun t => t.sz < 2 ^ 62 → zaq Tryz.prog (om Tryz.prog) 187 [zag t] ⟨0, []⟩ = some (.int .i64 t.dp, ⟨0, []⟩)) (fun t ih hc => ?_) t hc
 have hs := zfz t
 have L := yas4 t.pl t.sub (by omega) (fun x hx => ih x hx (by have := zk3 hx; omega)) 0 (Nat.zero_le _) 0
 rw [zx8, Nat.zero_max] at L
 have hd := yayq t
 rw [yas6] at hd ⊢
 simp only [zag, zah, List.drop_zero, Int.natCast_zero] at L
 rw [yase _ _ (by simp)]
 simp (maxSteps := 1000000) -implicitDefEqProofs only [↓reduceIte, ↓cond_true, ↓cond_false, sr1, sr2, kA, seval, d187, n187, e187, zag, zah, L, wi_nat (show MTerm.dpL t.sub < 2 ^ 62 by omega)]
theorem zef (n : Int) : zaq Tryz.prog (om Tryz.prog) 99 [.int .i64 n] ⟨0, []⟩ = some (.bool (inR n 1 64), ⟨0, []⟩) := by
 rw [yayb _ _ (by simp)]
 simp (maxSteps := 1000000) -implicitDefEqProofs only [↓reduceIte, ↓cond_true, ↓cond_false, sr1, sr2, kA, seval, d99, n99, inR]
theorem zn5 (n : Int) : zaq Tryz.prog (om Tryz.prog) 100 [.int .i64 n] ⟨0, []⟩ = some (.bool (zg4 n), ⟨0, []⟩) := by
 rw [yara _ _ (by simp)]
 simp (maxSteps := 1000000) -implicitDefEqProofs only [↓reduceIte, ↓cond_true, ↓cond_false, sr1, sr2, kA, seval, d100, n100, zg4, Bool.or_assoc]
theorem zmj (w b : Int) : zaq Tryz.prog (om Tryz.prog) 57 [.int .i64 w, .int .u64 b] ⟨0, []⟩ = some (.bool (okB w b), ⟨0, []⟩) := by
 rw [yaxk _ _ (by simp)]
 simp (maxSteps := 1000000) -implicitDefEqProofs only [↓reduceIte, ↓cond_true, ↓cond_false, sr1, sr2, kA, seval, d57, n57, zvk, zhq, okB]
theorem szR : (((ByteArray.mk #[114, 46]).size : Nat) : Int) = 2 := rfl
theorem yap7 {s : ByteArray} {n : Nat} (h : n ≤ s.size) : sslK (.str s) none (some (.int .i64 (n : Int))) = some (.str (s.extract 0 n)) := by
 simp [sslK, zcu, h]
theorem yap8 {s : ByteArray} {n : Nat} (h : n ≤ s.size) : sslK (.str s) (some (.int .i64 (n : Int))) none = some (.str (s.extract n s.size)) := by
 simp [sslK, zcu, h]
theorem zt0 (s : ByteArray) : zaq Tryz.prog (om Tryz.prog) 209 [.str s, .str (ByteArray.mk #[114, 46])] ⟨0, []⟩ = some (.bool (decide (2 ≤ s.size) && decide (s.extract 0 2 = rDot)), ⟨0, []⟩) := by
 rw [yasr _ _ (by simp)]
 by_cases h : 2 ≤ s.size
 ·have h1 : decide ((2 : Int) ≤ (s.size : Int)) = true := decide_eq_true (by omega)
  have h2 := yap7 h
  simp only [Int.cast_ofNat_Int] at h2
  simp (maxSteps := 1000000) -implicitDefEqProofs only [↓reduceIte, ↓cond_true, ↓cond_false, sr1, sr2, kA, seval, d209, n209, szR, h1, h, h2, rDot]
  rfl
 ·have h1 : decide ((2 : Int) ≤ (s.size : Int)) = false := decide_eq_false (by omega)
  simp (maxSteps := 1000000) -implicitDefEqProofs only [↓reduceIte, ↓cond_true, ↓cond_false, sr1, sr2, kA, seval, d209, n209, szR, h1, h]
theorem yank (s : ByteArray) : zaq Tryz.prog (om Tryz.prog) 207 [.str s, .str (ByteArray.mk #[114, 46])] ⟨0, []⟩ = some (.str (zuw s), ⟨0, []⟩) := by
 have hp := zt0 s
 rw [yasp _ _ (by simp)]
 cases hb : (decide (2 ≤ s.size) && decide (s.extract 0 2 = rDot)) with
 | true =>
  have h : 2 ≤ s.size := by simp at hb; exact hb.1
  have h2 := yap8 h
  simp only [Int.cast_ofNat_Int] at h2
  simp (maxSteps := 1000000) -implicitDefEqProofs only [↓reduceIte, ↓cond_true, ↓cond_false, sr1, sr2, kA, seval, d207, n207, szR, hp, hb, h2, zuw]
 | false => simp (maxSteps := 1000000) -implicitDefEqProofs only [↓reduceIte, ↓cond_true, ↓cond_false, sr1, sr2, kA, seval, d207, n207, szR, hp, hb, zuw]
theorem yaiz (s : ByteArray) : zaq Tryz.prog (om Tryz.prog) 204 [.str s, .str (ByteArray.mk #[114, 46])] ⟨0, []⟩ = some (.str (zuw s), ⟨0, []⟩) := by
 rw [yasm _ _ (by simp)]
 simp (maxSteps := 1000000) -implicitDefEqProofs only [↓reduceIte, ↓cond_true, ↓cond_false, sr1, sr2, kA, seval, d204, n204, yank]
theorem yai0 (s : ByteArray) : (zuw s).size ≤ s.size := by
 unfold zuw
 cases (decide (2 ≤ s.size) && decide (s.extract 0 2 = rDot)) <;> simp
theorem yanl (s : ByteArray) (hs : s.size < 2 ^ 62) : zaq Tryz.prog (om Tryz.prog) 201 [.str s] ⟨0, []⟩ = some (.bool (varB s), ⟨0, []⟩) := by
 have := yai0 s
 rw [yasl _ _ (by simp)]
 simp (maxSteps := 1000000) -implicitDefEqProofs only [↓reduceIte, ↓cond_true, ↓cond_false, sr1, sr2, kA, seval, d201, n201, yaiz, zoz _ (show (zuw s).size < 2 ^ 62 by omega), varB]
theorem yal8 (t : MTerm) (w : Int) : zaq Tryz.prog (om Tryz.prog) 206 [zag t, .ptr 0 0] ⟨1, [some (.cells 3 [.int .i64 w])]⟩ = some (.bool (!decide (t.wd = w)), ⟨1, [some (.cells 3 [.int .i64 w])]⟩) := by
 rw [yaso _ _ (by simp)]
 simp (maxSteps := 1000000) -implicitDefEqProofs only [↓reduceIte, ↓cond_true, ↓cond_false, sr1, sr2, kA, seval, d206, n206, zag, zah]
def idxP {α : Type} (q : α → Bool) : List α → Nat → Int
 | [], _ => -1
 | x :: l, i => bif q x then (i : Int) else idxP q l (i + 1)
theorem yagb {α : Type} {q : α → Bool} {l : List α} {i : Nat} (h : i < l.length) : idxP q (l.drop i) i = bif q l[i] then (i : Int) else idxP q (l.drop (i + 1)) (i + 1) := by
 rw [List.drop_eq_getElem_cons h]; rfl
theorem yaao {α : Type} {q : α → Bool} : ∀ {l : List α} {i : Nat}, decide (0 ≤ idxP q l i) = l.any q
 | [], i => rfl
 | x :: l, i => by
  simp only [idxP, List.any_cons]
  by_cases e : q x = true
  ·simp only [e, cond_true, Bool.true_or]; exact decide_eq_true (by omega)
  ·rw [Bool.not_eq_true] at e
   simp only [e, cond_false, Bool.false_or]; exact yaao
theorem yale (p : Pl) (l : List MTerm) (hl : l.length < 2 ^ 62) (w : Int) : ∀ i, i ≤ l.length → nxt (lim (some []) 1 (blk 0 (om Tryz.prog ⟨208, none⟩ 1 (.loop (lpb Tryz.f208 0)) ⟨⟨19, [(0, .rsl (slA p l) p.cap 6 (l.map zag)), (1, .func 206 [] [.ptr 0 0]), (7, .int .i64 l.length), (8, .int .i64 i)]⟩, [], ⟨1, [some (.cells 3 [.int .i64 w])]⟩⟩))) (Ox Tryz.prog ⟨208, none⟩ 1 (.seq (za9 Tryz.f208 7) .ret)) = some (.ret, ⟨⟨19, [(4, .int .i64 (idxP (fun y => !decide (y.wd = w)) (l.drop i) i))]⟩, [], ⟨1, [some (.cells 3 [.int .i64 w])]⟩⟩) := by
 have hq := fun t => yal8 t w
 simp only [zag, zah] at hq
 refine zb8 ?_ (fun i h ih => ?_) <;> rw [zae]
 ·simp (maxSteps := 1000000) -implicitDefEqProofs only [↓reduceIte, ↓cond_true, ↓cond_false, sr1, sr2, kA, seval, d208, n208, e208, List.drop_length, idxP]
 ·simp (maxSteps := 1000000) -implicitDefEqProofs only [↓reduceIte, ↓cond_true, ↓cond_false, sr1, sr2, kA, seval, d208, n208, e208, dlt_t h, wi_nat (show i < 2 ^ 62 by omega), Go.Proofs.YtcfcphhamfhfcaaGreatDoor.v.ix_sl zab h, zag, zah, hq, ih, yagb h]
theorem yacy (p : Pl) (l : List MTerm) (hl : l.length < 2 ^ 62) (w : Int) : zaq Tryz.prog (om Tryz.prog) 208 [.rsl (slA p l) p.cap 6 (l.map zag), .func 206 [] [.ptr 0 0]] ⟨1, [some (.cells 3 [.int .i64 w])]⟩ = some (.int .i64 (idxP (fun y => !decide (y.wd = w)) l 0), ⟨1, [some (.cells 3 [.int .i64 w])]⟩) := by
 have L := yale p l hl w 0 (Nat.zero_le _)
 simp only [Int.natCast_zero, List.drop_zero] at L
 rw [yasq _ _ (by simp)]
 simp (maxSteps := 1000000) -implicitDefEqProofs only [↓reduceIte, ↓cond_true, ↓cond_false, sr1, sr2, kA, seval, d208, n208, e208, L]
theorem zth (p : Pl) (l : List MTerm) (hl : l.length < 2 ^ 62) (w : Int) : zaq Tryz.prog (om Tryz.prog) 205 [.rsl (slA p l) p.cap 6 (l.map zag), .func 206 [] [.ptr 0 0]] ⟨1, [some (.cells 3 [.int .i64 w])]⟩ = some (.bool (l.any fun y => !decide (y.wd = w)), ⟨1, [some (.cells 3 [.int .i64 w])]⟩) := by
 rw [yasn _ _ (by simp)]
 simp (maxSteps := 1000000) -implicitDefEqProofs only [↓reduceIte, ↓cond_true, ↓cond_false, sr1, sr2, kA, seval, d205, n205, yacy p l hl w, yaao]
set_option maxHeartbeats 4000000
theorem zdb {t : MTerm} {i : Nat} (h : i < t.sub.length) : zij t i = t.sub[i].wd := by simp [zij, h]
theorem yaqx {α : Type} {q : α → Bool} {l : List α} : (!l.any fun y => !q y) = l.all q := by
 induction l with
 | nil => rfl
 | cons x l ih => rw [List.any_cons, List.all_cons, ← ih]; cases q x <;> simp
theorem zdq {t : MTerm} {i : Nat} (h : i < t.sub.length) : ixA 6 (.rsl (slA t.pl t.sub) t.pl.cap 6 (t.sub.map zag)) (.int .i64 (i : Int)) = some (.rptr (adr (slA t.pl t.sub) (i * 6)) t.sub[i].cs) := Go.Proofs.YtcfcphhamfhfcaaGreatDoor.v.ix_sl zab h
theorem yanw (t : MTerm) (h3 : 2 < t.sub.length) : zaq Tryz.prog (om Tryz.prog) 202 [zag t, .int .i64 3] ⟨0, []⟩ = some (.bool (zdc t 3), ⟨0, []⟩) := by
 have i0 := zdq (show 0 < t.sub.length by omega)
 have w0 := zdb (show 0 < t.sub.length by omega)
 have i1 := zdq (show 1 < t.sub.length by omega)
 have w1 := zdb (show 1 < t.sub.length by omega)
 have i2 := zdq h3
 have w2 := zdb h3
 simp only [Int.natCast_zero, Int.natCast_one, Int.cast_ofNat_Int] at i0 i1 i2
 rw [zx0 _ _ (by simp)]
 cases c1 : decide (t.sub[0].wd = 1) with
 | false => simp (maxSteps := 1000000) -implicitDefEqProofs only [↓reduceIte, ↓cond_true, ↓cond_false, sr1, sr2, kA, seval, d202, zix, zfs, n202, zjb, zag, zah, i0, i1, i2, w0, w1, w2, zdc, c1]
 | true =>
  cases c2 : decide (t.sub[1].wd = t.wd) with
  | false => simp (maxSteps := 1000000) -implicitDefEqProofs only [↓reduceIte, ↓cond_true, ↓cond_false, sr1, sr2, kA, seval, d202, zix, zfs, n202, zjb, zag, zah, i0, i1, i2, w0, w1, w2, zdc, c1, c2]
  | true => simp (maxSteps := 1000000) -implicitDefEqProofs only [↓reduceIte, ↓cond_true, ↓cond_false, sr1, sr2, kA, seval, d202, zix, zfs, n202, zjb, zag, zah, i0, i1, i2, w0, w1, w2, zdc, c1, c2]
theorem yanx (t : MTerm) (h3 : 1 < t.sub.length) : zaq Tryz.prog (om Tryz.prog) 202 [zag t, .int .i64 4] ⟨0, []⟩ = some (.bool (zdc t 4), ⟨0, []⟩) := by
 have i0 := zdq (show 0 < t.sub.length by omega)
 have w0 := zdb (show 0 < t.sub.length by omega)
 have i1 := zdq h3
 have w1 := zdb h3
 simp only [Int.natCast_zero, Int.natCast_one, Int.cast_ofNat_Int] at i0 i1
 rw [zx0 _ _ (by simp)]
 cases c1 : inR t.sub[0].wd 1 64 with
 | false => simp (maxSteps := 1000000) -implicitDefEqProofs only [↓reduceIte, ↓cond_true, ↓cond_false, sr1, sr2, kA, seval, d202, zix, zfs, n202, zjb, zag, zah, i0, i1, w0, w1, zdc, c1, zef]
 | true =>
  cases c2 : inR t.sub[1].wd 1 64 with
  | false => simp (maxSteps := 1000000) -implicitDefEqProofs only [↓reduceIte, ↓cond_true, ↓cond_false, sr1, sr2, kA, seval, d202, zix, zfs, n202, zjb, zag, zah, i0, i1, w0, w1, zdc, c1, c2, zef]
  | true => simp (maxSteps := 1000000) -implicitDefEqProofs only [↓reduceIte, ↓cond_true, ↓cond_false, sr1, sr2, kA, seval, d202, zix, zfs, n202, zjb, zag, zah, i0, i1, w0, w1, zdc, c1, c2, zef]
theorem yad8 (t : MTerm) (how : Int) (hl : t.sub.length < 2 ^ 62) (h0 : 0 < t.sub.length) (h2 : how = 2 ∨ how = 4 → 1 < t.sub.length) (h3 : how = 3 → 2 < t.sub.length) : zaq Tryz.prog (om Tryz.prog) 202 [zag t, .int .i64 how] ⟨0, []⟩ = some (.bool (zdc t how), ⟨0, []⟩) := by
 have i0 := zdq h0
 have w0 := zdb h0
 have hC := zth t.pl t.sub hl t.wd
 simp only [Int.natCast_zero] at i0
 by_cases e3 : how = 3
 ·subst e3
  exact yanw t (h3 rfl)
 by_cases e4 : how = 4
 ·subst e4
  exact yanx t (h2 (.inr rfl))
 rw [zx0 _ _ (by simp)]
 by_cases e1 : how = 1
 ·subst e1
  simp (maxSteps := 1000000) -implicitDefEqProofs only [↓reduceIte, ↓cond_true, ↓cond_false, sr1, sr2, kA, seval, d202, zix, zfs, n202, zjb, zag, zah, i0, hC, yaqx, zdc]
 by_cases e2 : how = 2
 ·subst e2
  have i1 := zdq (h2 (.inl rfl))
  have w1 := zdb (h2 (.inl rfl))
  simp only [Int.natCast_one] at i1
  simp (maxSteps := 1000000) -implicitDefEqProofs only [↓reduceIte, ↓cond_true, ↓cond_false, sr1, sr2, kA, seval, d202, zix, zfs, n202, zjb, zag, zah, i0, i1, w0, w1, zdc]
 by_cases e5 : how = 5
 ·subst e5
  simp (maxSteps := 1000000) -implicitDefEqProofs only [↓reduceIte, ↓cond_true, ↓cond_false, sr1, sr2, kA, seval, d202, zix, zfs, n202, zjb, zag, zah, i0, w0, zdc, zef, Bool.and_assoc]
 by_cases e6 : how = 6
 ·subst e6
  simp (maxSteps := 1000000) -implicitDefEqProofs only [↓reduceIte, ↓cond_true, ↓cond_false, sr1, sr2, kA, seval, d202, zix, zfs, n202, zjb, zag, zah, i0, w0, zdc]
 have f1 := decide_eq_false e1
 have f2 := decide_eq_false e2
 have f3 := decide_eq_false e3
 have f4 := decide_eq_false e4
 have f5 := decide_eq_false e5
 have f6 := decide_eq_false e6
 simp (maxSteps := 1000000) -implicitDefEqProofs only [↓reduceIte, ↓cond_true, ↓cond_false, sr1, sr2, kA, seval, d202, zix, zfs, n202, zjb, zag, zah, i0, w0, f1, f2, f3, f4, f5, f6, zn5, zdc]
theorem yanm : Tryz.prog.underlying 243 = some (.array 25 236) := by kernel_rfl
theorem yauq : zbl Tryz.prog 236 = some 3 := by kernel_rfl
theorem yaig (k : Nat) (h : k < 25) : ∃ w rest, shapesC.drop (k * 3) = .str w :: .int .i64 (partL.getD k 0) :: .int .i64 (howL.getD k 0) :: rest := by
 have hk : k = 0 ∨ k = 1 ∨ k = 2 ∨ k = 3 ∨ k = 4 ∨ k = 5 ∨ k = 6 ∨ k = 7 ∨ k = 8 ∨ k = 9 ∨ k = 10 ∨ k = 11 ∨ k = 12 ∨ k = 13 ∨ k = 14 ∨ k = 15 ∨ k = 16 ∨ k = 17 ∨ k = 18 ∨ k = 19 ∨ k = 20 ∨ k = 21 ∨ k = 22 ∨ k = 23 ∨ k = 24 := by omega
 rcases hk with rfl | rfl | rfl | rfl | rfl | rfl | rfl | rfl | rfl | rfl | rfl | rfl | rfl | rfl | rfl | rfl | rfl | rfl | rfl | rfl | rfl | rfl | rfl | rfl | rfl <;> exact ⟨_, _, rfl⟩
def rowW (k : Int) : ByteArray := match (shapesC.drop (k.toNat * 3)) with | .str w :: _ => w | _ => ByteArray.empty
theorem ya1g {k : Int} (h0 : 0 ≤ k) (h : k ≤ 24) : ∃ rest, shapesC.drop (k.toNat * 3) = .str (rowW k) :: .int .i64 (zf4 k) :: .int .i64 (howK k) :: rest := by
 obtain ⟨w, rest, e⟩ := yaig k.toNat (by omega)
 exact ⟨rest, by unfold rowW; rw [e]; rfl⟩
theorem ya4v {a : Addr} {cs : List AV} {k : Int} (h0 : 0 ≤ k) (h : k ≤ 24) : zce Tryz.prog 243 (.rptr a cs) (.int .u8 k) = some (.rptr (a.add (k.toNat * 3)) (cs.drop (k.toNat * 3))) :=
 ya4u yanm yauq (by simp; omega)
theorem yadu (k : Int) (h0 : 0 ≤ k) : zaq Tryz.prog (om Tryz.prog) 200 [.int .u8 k] ⟨0, []⟩ = some (.tup [.agg (bif decide (k ≤ 24) then [.str (rowW k), .int .i64 (zf4 k), .int .i64 (howK k)] else [.str ByteArray.empty, .int .i64 0, .int .i64 0]), .bool (zes k)], ⟨0, []⟩) := by
 rw [yask _ _ (by simp)]
 by_cases h : k ≤ 24
 ·obtain ⟨rest, e⟩ := ya1g h0 h
  have h1 : decide (24 < k) = false := decide_eq_false (by omega)
  simp (maxSteps := 1000000) -implicitDefEqProofs only [↓reduceIte, ↓cond_true, ↓cond_false, sr1, sr2, kA, seval, d200, yapw, yaop, n200, h1, h, yafz, glob, ya4v h0 h, e, zes, show 3 ≤ rest.length + 1 + 1 + 1 by omega]
 ·have h1 : decide (24 < k) = true := decide_eq_true (by omega)
  simp (maxSteps := 1000000) -implicitDefEqProofs only [↓reduceIte, ↓cond_true, ↓cond_false, sr1, sr2, kA, seval, d200, yapw, yaop, n200, h1, h, zes]
theorem yahl : ∀ k : Nat, k < 25 → ((howL.getD k 0 = 2 ∨ howL.getD k 0 = 4 → 1 < partL.getD k 0) ∧ (howL.getD k 0 = 3 → 2 < partL.getD k 0)) := by decide
theorem yama (t : MTerm) (hk : 0 ≤ t.kd) (hn : t.nm.size < 2 ^ 62) (hl : t.sub.length < 2 ^ 62) : zaq Tryz.prog (om Tryz.prog) 189 [zag t] ⟨0, []⟩ = some (.bool (zke t), ⟨0, []⟩) := by
 have hs := yadu t.kd hk
 rw [yasg _ _ (by simp)]
 cases hw : inR t.wd 1 64 with
 | false => simp (maxSteps := 1000000) -implicitDefEqProofs only [↓reduceIte, ↓cond_true, ↓cond_false, sr1, sr2, kA, seval, d189, n189, yaax, zag, zah, zef, hw, zke]
 | true =>
 cases hb : zes t.kd with
 | false =>
  simp (maxSteps := 1000000) -implicitDefEqProofs only [↓reduceIte, ↓cond_true, ↓cond_false, sr1, sr2, kA, seval, d189, n189, yaax, zag, zah, zef, hw, hs, hb, zmj, yanl _ hn, zke, Bool.and_assoc]
 | true =>
  have hb' : t.kd ≤ 24 ∧ 0 < zf4 t.kd := by simpa [zes] using hb
  have hd : decide (t.kd ≤ 24) = true := decide_eq_true hb'.1
  cases hp : decide ((t.sub.length : Int) = zf4 t.kd) with
  | false => simp (maxSteps := 1000000) -implicitDefEqProofs only [↓reduceIte, ↓cond_true, ↓cond_false, sr1, sr2, kA, seval, d189, n189, yaax, zag, zah, zef, hw, hs, hb, hd, hp, zke, Bool.and_assoc]
  | true =>
   have hp' := of_decide_eq_true hp
   have ph := yahl t.kd.toNat (by omega)
   have hW := yad8 t (howK t.kd) hl (by omega) (fun e => by have := ph.1 e; unfold zf4 at hp'; omega) (fun e => by have := ph.2 e; unfold zf4 at hp'; omega)
   simp only [zag, zah] at hW
   simp (maxSteps := 1000000) -implicitDefEqProofs only [↓reduceIte, ↓cond_true, ↓cond_false, sr1, sr2, kA, seval, d189, n189, yaax, zag, zah, zef, hw, hs, hb, hd, hp, hW, zke, Bool.and_assoc]
def zsr (T : List Bn) : Blk := .map (zk7 AV.str (AV.int .i64) 0 T) T.length
theorem ya17 : Blk.map [] 0 = zsr [] := rfl
theorem zau {T : List Bn} : (zsr T).refs = [] := zot (fun _ => rfl) (fun _ => rfl)
theorem za6 {T : List Bn} {ρ : Nat → Nat} : (zsr T).ren ρ = zsr T := zyb (fun _ => rfl) (fun _ => rfl)
theorem ya18 {T : List Bn} {n : ByteArray} {z : Int} : lkK .str (.int .i64 z) (.str n) false (entB (some (zsr T))) = some (.int .i64 ((zek n T).getD z)) := by
 unfold zsr; rw [entB_some, lk_some kf_str]; exact yagr zyf
theorem zy7 {T : List Bn} {n : ByteArray} {z : Int} : lkK .str (.int .i64 z) (.str n) true (entB (some (zsr T))) = some (.tup [.int .i64 ((zek n T).getD z), .bool (zek n T).isSome]) := by
 unfold zsr; rw [entB_some, lk_some kf_str]; exact yatp zyf
theorem zss {T : List Bn} {n : ByteArray} {w : Int} {H : Heap} {b : Nat} : muO .str H b (.str n) (.int .i64 w) (some (zsr T)) = some (H.set b (zsr (zog n w T))) := by
 unfold zsr; rw [mu_some kf_str]; exact yagw zyf rfl
def zll : List Bn → List MTerm → Bool × List Bn
 | T, [] => (true, T)
 | T, x :: l => bif decide (x.kd = 2) then (bif (zek x.nm T).isSome && !decide ((zek x.nm T).getD 0 = x.wd) then (false, T) else zll (zog x.nm x.wd T) l) else zll T l
theorem zuz : ∀ {a : List MTerm} {T : List Bn} {b : List MTerm}, zll T (a ++ b) = bif (zll T a).1 then zll (zll T a).2 b else (false, (zll T a).2)
 | [], T, b => rfl
 | x :: a, T, b => by
  simp only [List.cons_append, zll]
  cases decide (x.kd = 2) with
  | false => exact zuz
  | true =>
   cases ((zek x.nm T).isSome && !decide ((zek x.nm T).getD 0 = x.wd)) with
   | false => exact zuz
   | true => rfl
noncomputable abbrev hvL (ok : Bool) : Blk := .loop (bif ok then .ready else .done) (bif ok then none else some .ret) 190 ⟨35, [(2, .ptr 1 0), (3, .ptr 2 0), (4, .ptr 3 0), (10, .func 198 [] [.ptr 4 0])]⟩ [11] (lpa Tryz.f190 0) (lpb Tryz.f190 0) 5
noncomputable abbrev hv (t : MTerm) (ok : Bool) (T : List Bn) : Heap := ⟨7, [some (hvL ok), some (.cells 181 [.map none]), some (.cells 4 [.bool false]), some (.cells 181 [.map (some 6)]), some (.cells 120 t.cs), some .dfr, some (zsr T)]⟩
theorem yans (t0 : MTerm) (p : Pl) (l : List MTerm) (hl : l.length < 2 ^ 62) (hS : ∀ x ∈ l, ∀ T, zaq Tryz.prog (om Tryz.prog) 199 [zag x, .yieldf 0] (hv t0 true T) = bif (zll T x.nodes).1 then some (.bool true, hv t0 true (zll T x.nodes).2) else some (.bool false, hv t0 false (zll T x.nodes).2)) :
  ∀ i, i ≤ l.length → ∀ T, lim (some []) 7 (blk 0 (om Tryz.prog ⟨199, none⟩ 7 (.loop (lpb Tryz.f199 0)) ⟨⟨23, [(1, .yieldf 0), (12, .rsl (slA p l) p.cap 6 (l.map zag)), (13, .int .i64 l.length), (14, .int .i64 i)]⟩, [], hv t0 true T⟩)) =
   bif (zll T ((l.drop i).flatMap MTerm.nodes)).1 then some (.normal, ⟨⟨23, []⟩, [], hv t0 true (zll T ((l.drop i).flatMap MTerm.nodes)).2⟩) else some (.ret, ⟨⟨23, [(4, .bool false)]⟩, [], hv t0 false (zll T ((l.drop i).flatMap MTerm.nodes)).2⟩) := by
 refine zb8 (fun T => ?_) (fun i h ih T => ?_) <;> rw [zae]
 ·simp (maxSteps := 1000000) -implicitDefEqProofs only [↓reduceIte, ↓cond_true, ↓cond_false, sr1, sr2, kA, seval, zx7, zyl, zya, List.drop_length, zah, hv, hvL, zau, za6, zll]
 ·have hx := hS l[i] (List.getElem_mem h) T
  have L := ih (zll T l[i].nodes).2
  rw [List.drop_eq_getElem_cons h, List.flatMap_cons, zuz]
  simp only [hv, hvL, zag, zah, cond_true, cond_false] at hx L
  cases hr : (zll T l[i].nodes).1 with
  | true =>
   rw [hr] at hx
   simp (maxSteps := 1000000) -implicitDefEqProofs only [↓reduceIte, ↓cond_true, ↓cond_false, sr1, sr2, kA, seval, zx7, zyl, zya, dlt_t h, wi_nat (show i < 2 ^ 62 by omega), Go.Proofs.YtcfcphhamfhfcaaGreatDoor.v.ix_sl zab h, zag, zah, hv, hvL, zau, za6, hx, L]
  | false =>
   rw [hr] at hx
   simp (maxSteps := 1000000) -implicitDefEqProofs only [↓reduceIte, ↓cond_true, ↓cond_false, sr1, sr2, kA, seval, zx7, zyl, zya, dlt_t h, wi_nat (show i < 2 ^ 62 by omega), Go.Proofs.YtcfcphhamfhfcaaGreatDoor.v.ix_sl zab h, zag, zah, hv, hvL, zau, za6, hx, L]
theorem yad5 (t0 : MTerm) : ∀ t : MTerm, t.sz < 2 ^ 62 → ∀ T, zaq Tryz.prog (om Tryz.prog) 199 [zag t, .yieldf 0] (hv t0 true T) = bif (zll T t.nodes).1 then some (.bool true, hv t0 true (zll T t.nodes).2) else some (.bool false, hv t0 false (zll T t.nodes).2) := by
 intro t
 refine zda (Q := fun t => t.sz < 2 ^ 62 → ∀ T, zaq Tryz.prog (om Tryz.prog) 199 [zag t, .yieldf 0] (hv t0 true T) = bif (zll T t.nodes).1 then some (.bool true, hv t0 true (zll T t.nodes).2) else some (.bool false, hv t0 false (zll T t.nodes).2)) (fun t ih hc T => ?_) t
 have hs := zfz t
 have L := fun T => yans t0 t.pl t.sub (by omega) (fun x hx => ih x hx (by have := zk3 hx; omega)) 0 (Nat.zero_le _) T
 simp only [hv, hvL, zag, zah, List.drop_zero, Int.natCast_zero, cond_true, cond_false] at L
 rw [zht, zll]
 rw [zxz _ _ (by simp)]
 cases hk : decide (t.kd = 2) with
 | false => simp (maxSteps := 1000000) -implicitDefEqProofs only [↓reduceIte, ↓cond_true, ↓cond_false, sr1, sr2, kA, seval, zx7, zyl, zya, d190, zqv, zqw, n190, e190, zag, zah, hv, hvL, zau, za6, hk, L]
 | true =>
  cases hb : (zek t.nm T).isSome with
  | false => simp (maxSteps := 1000000) -implicitDefEqProofs only [↓reduceIte, ↓cond_true, ↓cond_false, sr1, sr2, kA, seval, zx7, zyl, zya, d190, zqv, zqw, n190, e190, zag, zah, hv, hvL, zau, za6, zy7, zss, hk, hb, L]
  | true =>
   cases he : decide ((zek t.nm T).getD 0 = t.wd) with
   | false => simp (maxSteps := 1000000) -implicitDefEqProofs only [↓reduceIte, ↓cond_true, ↓cond_false, sr1, sr2, kA, seval, zx7, zyl, zya, d190, zqv, zqw, n190, e190, zag, zah, hv, hvL, zau, za6, zy7, zss, hk, hb, he, L]
   | true => simp (maxSteps := 1000000) -implicitDefEqProofs only [↓reduceIte, ↓cond_true, ↓cond_false, sr1, sr2, kA, seval, zx7, zyl, zya, d190, zqv, zqw, n190, e190, zag, zah, hv, hvL, zau, za6, zy7, zss, hk, hb, he, L]
theorem yanq (t : MTerm) (hc : t.sz < 2 ^ 62) : zaq Tryz.prog (om Tryz.prog) 190 [zag t] ⟨0, []⟩ = bif (zll [] t.nodes).1 then some (.tup [.map (some 0), .bool true], ⟨1, [some (zsr (zll [] t.nodes).2)]⟩) else some (.tup [.map none, .bool false], ⟨0, []⟩) := by
 have hn := zqi t
 have hv' := yad5 t t hc []
 simp only [hv, hvL, zag, zah, cond_true, cond_false] at hn hv'
 rw [yash _ _ (by simp)]
 simp (maxSteps := 1000000) -implicitDefEqProofs only [↓reduceIte, ↓cond_true, ↓cond_false, sr1, sr2, kA, seval, d190, zqv, zqw, n190, e190, zag, zah, hn, ya17, zau, za6]
 rw [zpl _ _ (by simp)]
 cases hr : (zll [] t.nodes).1 with
 | true =>
  rw [hr] at hv'
  simp (maxSteps := 1000000) -implicitDefEqProofs only [↓reduceIte, ↓cond_true, ↓cond_false, sr1, sr2, kA, seval, d198, n198, d190, zqv, zqw, n190, e190, zag, zah, hv', zau, za6]
 | false =>
  rw [hr] at hv'
  simp (maxSteps := 1000000) -implicitDefEqProofs only [↓reduceIte, ↓cond_true, ↓cond_false, sr1, sr2, kA, seval, d198, n198, d190, zqv, zqw, n190, e190, zag, zah, hv', zau, za6]
structure TOk (t : MTerm) : Prop where
 sz : t.sz < 2 ^ 62
 kd : ∀ x ∈ t.nodes, 0 ≤ x.kd
 nm : ∀ x ∈ t.nodes, x.nm.size < 2 ^ 62
theorem TOk.sub {t x : MTerm} (h : TOk t) (hx : x ∈ t.sub) : TOk x :=
 ⟨by have := zk3 hx; have := h.sz; omega, fun y hy => h.kd y (zg8 hx hy), fun y hy => h.nm y (zg8 hx hy)⟩
noncomputable abbrev hkL (ok : Bool) : Blk := .loop (bif ok then .ready else .done) (bif ok then none else some .ret) 170 ⟨27, [(1, .ptr 1 0), (2, .ptr 2 0), (15, .func 198 [] [.ptr 3 0])]⟩ [16] (lpa Tryz.f170 0) (lpb Tryz.f170 0) 4
noncomputable abbrev hkk (t : MTerm) (ok : Bool) : Heap := ⟨5, [some (hkL ok), some (.cells 120 t.cs), some (.cells 36 [.int .i64 (bif ok then 0 else 8)]), some (.cells 120 t.cs), some .dfr]⟩
theorem yanr (t0 : MTerm) (p : Pl) (l : List MTerm) (hl : l.length < 2 ^ 62) (hS : ∀ x ∈ l, zaq Tryz.prog (om Tryz.prog) 199 [zag x, .yieldf 0] (hkk t0 true) = bif zc2 x then some (.bool true, hkk t0 true) else some (.bool false, hkk t0 false)) :
  ∀ i, i ≤ l.length → lim (some []) 5 (blk 0 (om Tryz.prog ⟨199, none⟩ 5 (.loop (lpb Tryz.f199 0)) ⟨⟨23, [(1, .yieldf 0), (12, .rsl (slA p l) p.cap 6 (l.map zag)), (13, .int .i64 l.length), (14, .int .i64 i)]⟩, [], hkk t0 true⟩)) =
   bif (l.drop i).all zc2 then some (.normal, ⟨⟨23, []⟩, [], hkk t0 true⟩) else some (.ret, ⟨⟨23, [(4, .bool false)]⟩, [], hkk t0 false⟩) := by
 refine zb8 ?_ (fun i h ih => ?_) <;> rw [zae]
 ·simp (maxSteps := 1000000) -implicitDefEqProofs only [↓reduceIte, ↓cond_true, ↓cond_false, sr1, sr2, kA, seval, zx7, zyl, zya, List.drop_length, zah, hkk, hkL]
 ·have hx := hS l[i] (List.getElem_mem h)
  have L := ih
  rw [List.drop_eq_getElem_cons h, List.all_cons]
  simp only [hkk, hkL, zag, zah, cond_true, cond_false] at hx L
  cases hr : zc2 l[i] with
  | true =>
   rw [hr] at hx
   simp (maxSteps := 1000000) -implicitDefEqProofs only [↓reduceIte, ↓cond_true, ↓cond_false, sr1, sr2, kA, seval, zx7, zyl, zya, dlt_t h, wi_nat (show i < 2 ^ 62 by omega), Go.Proofs.YtcfcphhamfhfcaaGreatDoor.v.ix_sl zab h, zag, zah, hkk, hkL, hx, L]
  | false =>
   rw [hr] at hx
   simp (maxSteps := 1000000) -implicitDefEqProofs only [↓reduceIte, ↓cond_true, ↓cond_false, sr1, sr2, kA, seval, zx7, zyl, zya, dlt_t h, wi_nat (show i < 2 ^ 62 by omega), Go.Proofs.YtcfcphhamfhfcaaGreatDoor.v.ix_sl zab h, zag, zah, hkk, hkL, hx, L]
theorem yad4 (t0 : MTerm) : ∀ t : MTerm, TOk t → zaq Tryz.prog (om Tryz.prog) 199 [zag t, .yieldf 0] (hkk t0 true) = bif zc2 t then some (.bool true, hkk t0 true) else some (.bool false, hkk t0 false) := by
 intro t
 refine zda (Q := fun t => TOk t → zaq Tryz.prog (om Tryz.prog) 199 [zag t, .yieldf 0] (hkk t0 true) = bif zc2 t then some (.bool true, hkk t0 true) else some (.bool false, hkk t0 false)) (fun t ih ho => ?_) t
 have hs := zfz t
 have hz := ho.sz
 have L := yanr t0 t.pl t.sub (by omega) (fun x hx => ih x hx (ho.sub hx)) 0 (Nat.zero_le _)
 have hN := yama t (ho.kd t (zfy t)) (ho.nm t (zfy t)) (by omega)
 simp only [hkk, hkL, zag, zah, List.drop_zero, Int.natCast_zero, cond_true, cond_false] at L hN
 have e : zc2 t = (zke t && t.sub.all zc2) := zdv t
 rw [e]
 rw [zxz _ _ (by simp)]
 cases hk : zke t with
 | false =>
  rw [hk] at hN
  simp (maxSteps := 1000000) -implicitDefEqProofs only [↓reduceIte, ↓cond_true, ↓cond_false, sr1, sr2, kA, seval, zx7, zyl, zya, d170, zmq, n170, e170, zag, zah, hkk, hkL, hN]
 | true =>
  rw [hk] at hN
  simp (maxSteps := 1000000) -implicitDefEqProofs only [↓reduceIte, ↓cond_true, ↓cond_false, sr1, sr2, kA, seval, zx7, zyl, zya, d170, zmq, n170, e170, zag, zah, hkk, hkL, hN, L]
theorem zm2 : ∀ {l : List MTerm} {T : List Bn}, (zll T l).1 = zr0 T ((l.filter fun x => decide (x.kd = 2)).map fun x => (x.nm, x.wd))
 | [], T => rfl
 | x :: l, T => by
  simp only [zll]
  cases hk : decide (x.kd = 2) with
  | false => simp only [cond_false, List.filter_cons, hk, Bool.false_eq_true, if_false]; exact zm2
  | true =>
   simp only [cond_true, List.filter_cons, hk, if_true, List.map_cons, zr0]
   cases hg : zek x.nm T with
   | none => simp only [Option.isSome_none, Bool.false_and, cond_false, Bool.true_and]; exact zm2
   | some w =>
    simp only [Option.isSome_some, Option.getD_some, Bool.true_and]
    cases decide (w = x.wd) with
    | false => rfl
    | true => simp only [Bool.not_true, cond_false, Bool.true_and]; exact zm2
theorem yadx (t : MTerm) (ho : TOk t) : zaq Tryz.prog (om Tryz.prog) 170 [zag t] ⟨0, []⟩ = some (.int .i64 (znp t), ⟨0, []⟩) := by
 have hn := zqi t
 have hv' := yad4 t t ho
 have hz := yam0 t ho.sz
 have hd := yafk t ho.sz
 have hr := yanq t ho.sz
 have ev : (zll [] t.nodes).1 = zr0 [] (zh4 t) := zm2
 rw [ev] at hr
 simp only [hkk, hkL, zag, zah, cond_true, cond_false] at hn hv' hz hd hr
 rw [yar8 _ _ (by simp)]
 cases hs : zrz t with
 | true =>
  have hs' := hs
  unfold zrz at hs'
  simp (maxSteps := 1000000) -implicitDefEqProofs only [↓reduceIte, ↓cond_true, ↓cond_false, sr1, sr2, kA, seval, d170, zmq, n170, e170, zag, zah, hz, hd, hs', znp, hs]
 | false =>
  have hs' := hs
  unfold zrz at hs'
  simp only [Bool.or_eq_false_iff] at hs'
  have i1 : (zc2 t) = t.nodes.all zke := rfl
  cases hb : zc2 t with
  | false =>
   rw [hb] at hv'
   simp (maxSteps := 1000000) -implicitDefEqProofs only [↓reduceIte, ↓cond_true, ↓cond_false, sr1, sr2, kA, seval, d170, zmq, n170, e170, zag, zah, hz, hd, hs'.1, hs'.2, znp, hs, hn, hb]
   rw [zpl _ _ (by simp)]
   simp (maxSteps := 1000000) -implicitDefEqProofs only [↓reduceIte, ↓cond_true, ↓cond_false, sr1, sr2, kA, seval, d198, n198, d170, zmq, n170, e170, zag, zah, hv']
  | true =>
   rw [hb] at hv'
   cases hw : zr0 [] (zh4 t) with
   | true =>
    rw [hw] at hr
    simp (maxSteps := 1000000) -implicitDefEqProofs only [↓reduceIte, ↓cond_true, ↓cond_false, sr1, sr2, kA, seval, d170, zmq, n170, e170, zag, zah, hz, hd, hs'.1, hs'.2, znp, hs, hn, hb, hw]
    rw [zpl _ _ (by simp)]
    simp (maxSteps := 1000000) -implicitDefEqProofs only [↓reduceIte, ↓cond_true, ↓cond_false, sr1, sr2, kA, seval, d198, n198, d170, zmq, n170, e170, zag, zah, hv', hr, zau, za6]
   | false =>
    rw [hw] at hr
    simp (maxSteps := 1000000) -implicitDefEqProofs only [↓reduceIte, ↓cond_true, ↓cond_false, sr1, sr2, kA, seval, d170, zmq, n170, e170, zag, zah, hz, hd, hs'.1, hs'.2, znp, hs, hn, hb, hw]
    rw [zpl _ _ (by simp)]
    simp (maxSteps := 1000000) -implicitDefEqProofs only [↓reduceIte, ↓cond_true, ↓cond_false, sr1, sr2, kA, seval, d198, n198, d170, zmq, n170, e170, zag, zah, hv', hr, zau, za6]
theorem zrc {a b : Nat} (h : a + b < 2 ^ 62) : IntKind.i64.wrap ((a : Int) + (b : Int)) = ((a + b : Nat) : Int) := by
 rw [zjp (by omega) (by omega)]; omega
abbrev tH (t : MTerm) : Heap := ⟨1, [some (.cells 120 t.cs)]⟩
theorem yauw (t : MTerm) (hz : t.sz < 2 ^ 62) (hS : ∀ x ∈ t.sub, zaq Tryz.prog (om Tryz.prog) 130 [zag x] ⟨0, []⟩ = some (.int .i64 x.sz, ⟨0, []⟩)) :
  ∀ i, i ≤ t.sub.length → ∀ c : Nat, c + szL (t.sub.drop i) < 2 ^ 62 → lim (some [3]) 0 (blk 0 (om Tryz.prog ⟨130, none⟩ 0 (.loop (lpb Tryz.f130 0)) ⟨⟨21, [(1, .ptr 0 0), (3, .int .i64 c), (4, .int .i64 i)]⟩, [], tH t⟩)) = some (.normal, ⟨⟨21, [(3, .int .i64 ((c + szL (t.sub.drop i) : Nat) : Int))]⟩, [], ⟨0, []⟩⟩) := by
 have hs := zfz t
 refine zb8 (fun c hc => ?_) (fun i h ih c hc => ?_) <;> rw [zae]
 ·simp (maxSteps := 1000000) -implicitDefEqProofs only [↓reduceIte, ↓cond_true, ↓cond_false, sr1, sr2, kA, seval, d130, n130, e130, tH, zah, List.drop_length, yair]
 ·have e : szL (t.sub.drop i) = t.sub[i].sz + szL (t.sub.drop (i + 1)) := by rw [List.drop_eq_getElem_cons h, zfc]
  rw [e] at hc ⊢
  have hx := hS t.sub[i] (List.getElem_mem h)
  have L := ih (c + t.sub[i].sz) (by omega)
  rw [Nat.add_assoc] at L
  simp only [tH, zag, zah] at hx L
  simp (maxSteps := 1000000) -implicitDefEqProofs only [↓reduceIte, ↓cond_true, ↓cond_false, sr1, sr2, kA, seval, d130, n130, e130, tH, dlt_t h, wi_nat (show i < 2 ^ 62 by omega), zdq h, zag, zah, hx, zrc (show c + t.sub[i].sz < 2 ^ 62 by omega), L]
theorem zmw (t : MTerm) (hc : t.sz < 2 ^ 62) : zaq Tryz.prog (om Tryz.prog) 130 [zag t] ⟨0, []⟩ = some (.int .i64 t.sz, ⟨0, []⟩) := by
 refine zda (Q := fun t => t.sz < 2 ^ 62 → zaq Tryz.prog (om Tryz.prog) 130 [zag t] ⟨0, []⟩ = some (.int .i64 t.sz, ⟨0, []⟩)) (fun t ih hc => ?_) t hc
 have hz := zus t
 have L := yauw t hc (fun x hx => ih x hx (by have := zk3 hx; omega)) 0 (Nat.zero_le _) 1 (by rw [List.drop_zero]; omega)
 rw [List.drop_zero, show 1 + szL t.sub = t.sz by omega] at L
 simp only [tH, zag, zah, Int.natCast_zero, Int.natCast_one] at L
 rw [yarj _ _ (by simp)]
 simp (maxSteps := 1000000) -implicitDefEqProofs only [↓reduceIte, ↓cond_true, ↓cond_false, sr1, sr2, kA, seval, d130, n130, e130, zag, zah, L]
theorem yakp (t : MTerm) (hz : t.sz < 2 ^ 62) (hS : ∀ x ∈ t.sub, zaq Tryz.prog (om Tryz.prog) 182 [zag x] ⟨0, []⟩ = some (.int .i64 x.dp, ⟨0, []⟩)) :
  ∀ i, i ≤ t.sub.length → ∀ d : Nat, lim (some [3]) 0 (blk 0 (om Tryz.prog ⟨182, none⟩ 0 (.loop (lpb Tryz.f182 0)) ⟨⟨22, [(1, .ptr 0 0), (3, .int .i64 d), (4, .int .i64 i)]⟩, [], tH t⟩)) = some (.normal, ⟨⟨22, [(3, .int .i64 (dpF d (t.sub.drop i)))]⟩, [], ⟨0, []⟩⟩) := by
 have hs := zfz t
 refine zb8 (fun d => ?_) (fun i h ih d => ?_) <;> rw [zae]
 ·simp (maxSteps := 1000000) -implicitDefEqProofs only [↓reduceIte, ↓cond_true, ↓cond_false, sr1, sr2, kA, seval, d182, n182, e182, tH, zah, yafl]
 ·have hx := hS t.sub[i] (List.getElem_mem h)
  have L := ih (max d t.sub[i].dp)
  rw [zz6 h]
  simp only [tH, zag, zah] at hx L
  simp (maxSteps := 1000000) -implicitDefEqProofs only [↓reduceIte, ↓cond_true, ↓cond_false, sr1, sr2, kA, seval, d182, n182, e182, tH, dlt_t h, wi_nat (show i < 2 ^ 62 by omega), zdq h, zag, zah, hx, yapp, L]
theorem yacj (t : MTerm) (hc : t.sz < 2 ^ 62) : zaq Tryz.prog (om Tryz.prog) 182 [zag t] ⟨0, []⟩ = some (.int .i64 t.dp, ⟨0, []⟩) := by
 refine zda (Q := fun t => t.sz < 2 ^ 62 → zaq Tryz.prog (om Tryz.prog) 182 [zag t] ⟨0, []⟩ = some (.int .i64 t.dp, ⟨0, []⟩)) (fun t ih hc => ?_) t hc
 have L := yakp t hc (fun x hx => ih x hx (by have := zk3 hx; omega)) 0 (Nat.zero_le _) 0
 rw [zx8, Nat.zero_max] at L
 have hd := yayq t
 rw [yas6] at hd ⊢
 simp only [tH, zag, zah, List.drop_zero, Int.natCast_zero] at L
 rw [yasa _ _ (by simp)]
 simp (maxSteps := 1000000) -implicitDefEqProofs only [↓reduceIte, ↓cond_true, ↓cond_false, sr1, sr2, kA, seval, d182, n182, e182, zag, zah, L, wi_nat (show MTerm.dpL t.sub < 2 ^ 62 by omega)]
theorem zcz (n : Int) : zaq Tryz.prog (om Tryz.prog) 104 [.int .i64 n] ⟨0, []⟩ = some (.bool (inR n 1 64), ⟨0, []⟩) := by
 rw [yare _ _ (by simp)]
 simp (maxSteps := 1000000) -implicitDefEqProofs only [↓reduceIte, ↓cond_true, ↓cond_false, sr1, sr2, kA, seval, d104, n104, inR]
theorem zi8 (n : Int) : zaq Tryz.prog (om Tryz.prog) 197 [.int .i64 n] ⟨0, []⟩ = some (.bool (zg4 n), ⟨0, []⟩) := by
 rw [yasj _ _ (by simp)]
 simp (maxSteps := 1000000) -implicitDefEqProofs only [↓reduceIte, ↓cond_true, ↓cond_false, sr1, sr2, kA, seval, d197, n197, zg4, Bool.or_assoc]
theorem ze0 {n : Int} (h0 : 0 ≤ n) (h1 : n < 18446744073709551616) : IntKind.u64.wrap n = n := by
 simp only [IntKind.wrap, IntKind.bits, IntKind.signed]
 simp
 omega
theorem ya2e {i : Nat} (h : i < 63) : IntKind.u64.wrap (((2 ^ i : Nat) : Int) + ((2 ^ i : Nat) : Int)) = ((2 ^ (i + 1) : Nat) : Int) := by
 have h1 : 2 ^ (i + 1) < 18446744073709551616 := Nat.lt_of_lt_of_le (Nat.pow_lt_pow_right (by decide) (show i + 1 < 64 by omega)) (by decide)
 have e : (((2 ^ i : Nat) : Int) + ((2 ^ i : Nat) : Int)) = ((2 ^ (i + 1) : Nat) : Int) := by rw [Nat.pow_succ]; omega
 rw [e]
 generalize 2 ^ (i + 1) = m at h1 ⊢
 exact ze0 (by omega) (by omega)
theorem yaht (n : Nat) (hn : n ≤ 63) : ∀ i, i ≤ n → lim (some [3]) 0 (blk 0 (om Tryz.prog ⟨102, none⟩ 0 (.loop (lpb Tryz.f102 0)) ⟨⟨14, [(0, .int .i64 n), (3, .int .u64 (2 ^ i : Nat)), (4, .int .i64 i)]⟩, [], ⟨0, []⟩⟩)) = some (.normal, ⟨⟨14, [(3, .int .u64 (2 ^ n : Nat))]⟩, [], ⟨0, []⟩⟩) := by
 refine zb8 ?_ (fun i h ih => ?_) <;> rw [zae]
 ·simp (maxSteps := 1000000) -implicitDefEqProofs only [↓reduceIte, ↓cond_true, ↓cond_false, sr1, sr2, kA, seval, d102, n102, e102, ]
 ·simp (maxSteps := 1000000) -implicitDefEqProofs only [↓reduceIte, ↓cond_true, ↓cond_false, sr1, sr2, kA, seval, d102, n102, e102, dlt_t h, wi_nat (show i < 2 ^ 62 by omega), ya2e (show i < 63 by omega), ih]
theorem zlh (n : Nat) (hn : n ≤ 63) : zaq Tryz.prog (om Tryz.prog) 102 [.int .i64 n] ⟨0, []⟩ = some (.int .u64 (2 ^ n : Nat), ⟨0, []⟩) := by
 have L := yaht n hn 0 (Nat.zero_le _)
 rw [Nat.pow_zero, Int.natCast_zero, Int.natCast_one] at L
 rw [yarc _ _ (by simp)]
 simp (maxSteps := 1000000) -implicitDefEqProofs only [↓reduceIte, ↓cond_true, ↓cond_false, sr1, sr2, kA, seval, d102, n102, e102, L]
theorem zeb {n : Nat} (h1 : 1 ≤ n) (h2 : n ≤ 64) : zcb (n : Int) = ((2 ^ n - 1 : Nat) : Int) := by
 unfold zcb
 rw [if_pos (by simp [inR]; omega), show (64 - (n : Int)).toNat = 64 - n by omega]
 have : 18446744073709551615 / 2 ^ (64 - n) = 2 ^ n - 1 := by
  have e : 18446744073709551615 = 2 ^ 64 - 1 := by decide
  have e2 : 2 ^ 64 = 2 ^ n * 2 ^ (64 - n) := by rw [← Nat.pow_add]; congr 1; omega
  have p1 : 0 < 2 ^ (64 - n) := Nat.two_pow_pos _
  have p2 : 0 < 2 ^ n := Nat.two_pow_pos _
  rw [e, e2]
  rw [show 2 ^ n * 2 ^ (64 - n) - 1 = (2 ^ n - 1) * 2 ^ (64 - n) + (2 ^ (64 - n) - 1) by
   rw [Nat.sub_mul, Nat.one_mul]
   have : 2 ^ (64 - n) ≤ 2 ^ n * 2 ^ (64 - n) := Nat.le_mul_of_pos_left _ p2
   omega]
  rw [Nat.add_comm, Nat.add_mul_div_right _ _ p1, Nat.div_eq_of_lt (by omega), Nat.zero_add]
 rw [← this, Int.natCast_ediv]; rfl
theorem ya0e (w b : Int) (hb : b < 18446744073709551616) : okB w b = (inR w 1 64 && (decide (w = 64) || decide (b < (2 ^ w.toNat : Nat)))) := by
 unfold okB
 cases h : inR w 1 64 with
 | false => rfl
 | true =>
  have hw : 1 ≤ w ∧ w ≤ 64 := by simpa [inR] using h
  obtain ⟨n, rfl⟩ := Int.eq_ofNat_of_zero_le (show 0 ≤ w by omega)
  rw [zeb (by omega) (by omega), Int.toNat_natCast, Bool.true_and, Bool.true_and, Bool.eq_iff_iff, decide_eq_true_iff, Bool.or_eq_true, decide_eq_true_iff, decide_eq_true_iff]
  have p := Nat.two_pow_pos n
  by_cases e : n = 64
  ·subst e
   have e2 : ((2 ^ 64 - 1 : Nat) : Int) = 18446744073709551615 := by decide
   rw [e2]; omega
  ·omega
theorem zj3 (w b : Int) (hb : b < 18446744073709551616) : zaq Tryz.prog (om Tryz.prog) 66 [.int .i64 w, .int .u64 b] ⟨0, []⟩ = some (.bool (okB w b), ⟨0, []⟩) := by
 rw [ya0e w b hb]
 rw [yaxn _ _ (by simp)]
 cases h : inR w 1 64 with
 | false => simp (maxSteps := 1000000) -implicitDefEqProofs only [↓reduceIte, ↓cond_true, ↓cond_false, sr1, sr2, kA, seval, d66, n66, zcz, h]
 | true =>
  cases h6 : decide (w = 64) with
  | true => simp (maxSteps := 1000000) -implicitDefEqProofs only [↓reduceIte, ↓cond_true, ↓cond_false, sr1, sr2, kA, seval, d66, n66, zcz, h, h6]
  | false =>
   have hw : 1 ≤ w ∧ w ≤ 64 := by simpa [inR] using h
   have h6' := of_decide_eq_false h6
   have hp := zlh w.toNat (by omega)
   rw [show ((w.toNat : Nat) : Int) = w by omega] at hp
   simp (maxSteps := 1000000) -implicitDefEqProofs only [↓reduceIte, ↓cond_true, ↓cond_false, sr1, sr2, kA, seval, d66, n66, zcz, h, h6, hp]
theorem zdj (s : ByteArray) (hs : s.size < 2 ^ 62) : zaq Tryz.prog (om Tryz.prog) 196 [.str s] ⟨0, []⟩ = some (.bool (varB s), ⟨0, []⟩) := by
 rw [← yavi]
 rw [yasi _ _ (by simp)]
 by_cases h : 2 < s.size
 ·have h1 : decide ((2 : Int) < (s.size : Int)) = true := decide_eq_true (by omega)
  have h2 := yap7 (show 2 ≤ s.size by omega)
  have h3 := yap8 (show 2 ≤ s.size by omega)
  simp only [Int.cast_ofNat_Int] at h2 h3
  have hn := zed (s.extract 2 s.size) (by simp; omega)
  have hm := zed s hs
  cases hd : decide (s.extract 0 2 = rDot) with
  | true => simp (maxSteps := 1000000) -implicitDefEqProofs only [↓reduceIte, ↓cond_true, ↓cond_false, sr1, sr2, kA, seval, d196, n196, h1, h2, h3, h, varC, hn, hm, hd, show (ByteArray.mk #[114, 46]) = rDot from rfl]
  | false => simp (maxSteps := 1000000) -implicitDefEqProofs only [↓reduceIte, ↓cond_true, ↓cond_false, sr1, sr2, kA, seval, d196, n196, h1, h2, h3, h, varC, hn, hm, hd, show (ByteArray.mk #[114, 46]) = rDot from rfl]
 ·have h1 : decide ((2 : Int) < (s.size : Int)) = false := decide_eq_false (by omega)
  have hm := zed s hs
  simp (maxSteps := 1000000) -implicitDefEqProofs only [↓reduceIte, ↓cond_true, ↓cond_false, sr1, sr2, kA, seval, d196, n196, h1, h, varC, hm]
theorem yak0 (t : MTerm) (hz : t.sz < 2 ^ 62) (hS : ∀ x ∈ t.sub, zaq Tryz.prog (om Tryz.prog) 183 [zag x] ⟨0, []⟩ = some (.bool (zep x), ⟨0, []⟩)) :
  ∀ i, i ≤ t.sub.length → lim (some [1]) 0 (blk 0 (om Tryz.prog ⟨183, none⟩ 0 (.loop (lpb Tryz.f183 0)) ⟨⟨236, [(1, .ptr 0 0), (3, .int .i64 i)]⟩, [], tH t⟩)) = bif (t.sub.drop i).all zep then some (.normal, ⟨⟨236, [(1, .ptr 0 0)]⟩, [], tH t⟩) else some (.ret, ⟨⟨236, [(2, .bool false)]⟩, [], ⟨0, []⟩⟩) := by
 have hs := zfz t
 refine zb8 ?_ (fun i h ih => ?_) <;> rw [zae]
 ·simp (maxSteps := 1000000) -implicitDefEqProofs only [↓reduceIte, ↓cond_true, ↓cond_false, sr1, sr2, kA, seval, d183, zlx, n183, zmf, zmg, zmh, zmi, e183, tH, zah, List.drop_length]
 ·have hx := hS t.sub[i] (List.getElem_mem h)
  have L := ih
  rw [List.drop_eq_getElem_cons h, List.all_cons]
  simp only [tH, zag, zah] at hx L
  cases hr : zep t.sub[i] with
  | true =>
   rw [hr] at hx
   simp (maxSteps := 1000000) -implicitDefEqProofs only [↓reduceIte, ↓cond_true, ↓cond_false, sr1, sr2, kA, seval, d183, zlx, n183, zmf, zmg, zmh, zmi, e183, tH, dlt_t h, wi_nat (show i < 2 ^ 62 by omega), zdq h, zag, zah, hx, L]
  | false =>
   rw [hr] at hx
   simp (maxSteps := 1000000) -implicitDefEqProofs only [↓reduceIte, ↓cond_true, ↓cond_false, sr1, sr2, kA, seval, d183, zlx, n183, zmf, zmg, zmh, zmi, e183, tH, dlt_t h, wi_nat (show i < 2 ^ 62 by omega), zdq h, zag, zah, hx]
structure NOk (t : MTerm) : Prop where
 kd : 0 ≤ t.kd
 b1 : t.bt < 18446744073709551616
 nm : t.nm.size < 2 ^ 62
theorem yay5 (t : MTerm) (ho : NOk t) (hl : t.sub.length = 0) (L : lim (some [1]) 0 (blk 0 (om Tryz.prog ⟨183, none⟩ 0 (.loop (lpb Tryz.f183 0)) ⟨⟨236, [(1, .ptr 0 0), (3, .int .i64 0)]⟩, [], tH t⟩)) = some (.normal, ⟨⟨236, [(1, .ptr 0 0)]⟩, [], tH t⟩)) : zaq Tryz.prog (om Tryz.prog) 183 [zag t] ⟨0, []⟩ = some (.bool (zhk t), ⟨0, []⟩) := by
 have l1 : (t.sub.length : Int) = 0 := by omega
 simp only [tH, zah, Int.natCast_zero, Int.natCast_one, Int.cast_ofNat_Int] at L
 rw [znb _ _ (by simp)]
 simp (maxSteps := 1000000) -implicitDefEqProofs only [↓reduceIte, ↓cond_true, ↓cond_false, sr1, sr2, kA, seval, d183, zlx, n183, zmf, zmg, zmh, zmi, e183, tH, zag, zah, L, l1, zcz, zj3 _ _ ho.b1, zdj _ ho.nm, zi8, zhk, Bool.and_assoc, Bool.or_assoc]
theorem yay6 (t : MTerm) (ho : NOk t) (hl : t.sub.length = 1) (L : lim (some [1]) 0 (blk 0 (om Tryz.prog ⟨183, none⟩ 0 (.loop (lpb Tryz.f183 0)) ⟨⟨236, [(1, .ptr 0 0), (3, .int .i64 0)]⟩, [], tH t⟩)) = some (.normal, ⟨⟨236, [(1, .ptr 0 0)]⟩, [], tH t⟩)) : zaq Tryz.prog (om Tryz.prog) 183 [zag t] ⟨0, []⟩ = some (.bool (zhk t), ⟨0, []⟩) := by
 have i0 := zdq (show 0 < t.sub.length by omega)
 have w0 := zdb (show 0 < t.sub.length by omega)
 have l1 : (t.sub.length : Int) = 1 := by omega
 simp only [tH, zah, Int.natCast_zero, Int.natCast_one, Int.cast_ofNat_Int] at L i0
 rw [znb _ _ (by simp)]
 simp (maxSteps := 1000000) -implicitDefEqProofs only [↓reduceIte, ↓cond_true, ↓cond_false, sr1, sr2, kA, seval, d183, zlx, n183, zmf, zmg, zmh, zmi, e183, tH, zag, zah, L, i0, w0, l1, zcz, zj3 _ _ ho.b1, zdj _ ho.nm, zi8, zhk, Bool.and_assoc, Bool.or_assoc]
theorem yay7 (t : MTerm) (ho : NOk t) (hl : t.sub.length = 2) (L : lim (some [1]) 0 (blk 0 (om Tryz.prog ⟨183, none⟩ 0 (.loop (lpb Tryz.f183 0)) ⟨⟨236, [(1, .ptr 0 0), (3, .int .i64 0)]⟩, [], tH t⟩)) = some (.normal, ⟨⟨236, [(1, .ptr 0 0)]⟩, [], tH t⟩)) : zaq Tryz.prog (om Tryz.prog) 183 [zag t] ⟨0, []⟩ = some (.bool (zhk t), ⟨0, []⟩) := by
 have i0 := zdq (show 0 < t.sub.length by omega)
 have w0 := zdb (show 0 < t.sub.length by omega)
 have i1 := zdq (show 1 < t.sub.length by omega)
 have w1 := zdb (show 1 < t.sub.length by omega)
 have l1 : (t.sub.length : Int) = 2 := by omega
 simp only [tH, zah, Int.natCast_zero, Int.natCast_one, Int.cast_ofNat_Int] at L i0 i1
 rw [znb _ _ (by simp)]
 simp (maxSteps := 1000000) -implicitDefEqProofs only [↓reduceIte, ↓cond_true, ↓cond_false, sr1, sr2, kA, seval, d183, zlx, n183, zmf, zmg, zmh, zmi, e183, tH, zag, zah, L, i0, i1, w0, w1, l1, zcz, zj3 _ _ ho.b1, zdj _ ho.nm, zi8, zhk, Bool.and_assoc, Bool.or_assoc]
theorem yay8 (t : MTerm) (ho : NOk t) (hl : t.sub.length = 3) (L : lim (some [1]) 0 (blk 0 (om Tryz.prog ⟨183, none⟩ 0 (.loop (lpb Tryz.f183 0)) ⟨⟨236, [(1, .ptr 0 0), (3, .int .i64 0)]⟩, [], tH t⟩)) = some (.normal, ⟨⟨236, [(1, .ptr 0 0)]⟩, [], tH t⟩)) : zaq Tryz.prog (om Tryz.prog) 183 [zag t] ⟨0, []⟩ = some (.bool (zhk t), ⟨0, []⟩) := by
 have i0 := zdq (show 0 < t.sub.length by omega)
 have w0 := zdb (show 0 < t.sub.length by omega)
 have i1 := zdq (show 1 < t.sub.length by omega)
 have w1 := zdb (show 1 < t.sub.length by omega)
 have i2 := zdq (show 2 < t.sub.length by omega)
 have w2 := zdb (show 2 < t.sub.length by omega)
 have l1 : (t.sub.length : Int) = 3 := by omega
 simp only [tH, zah, Int.natCast_zero, Int.natCast_one, Int.cast_ofNat_Int] at L i0 i1 i2
 rw [znb _ _ (by simp)]
 simp (maxSteps := 1000000) -implicitDefEqProofs only [↓reduceIte, ↓cond_true, ↓cond_false, sr1, sr2, kA, seval, d183, zlx, n183, zmf, zmg, zmh, zmi, e183, tH, zag, zah, L, i0, i1, i2, w0, w1, w2, l1, zcz, zj3 _ _ ho.b1, zdj _ ho.nm, zi8, zhk, Bool.and_assoc, Bool.or_assoc]
theorem yay9 (t : MTerm) (ho : NOk t) (hl : 4 ≤ t.sub.length) (L : lim (some [1]) 0 (blk 0 (om Tryz.prog ⟨183, none⟩ 0 (.loop (lpb Tryz.f183 0)) ⟨⟨236, [(1, .ptr 0 0), (3, .int .i64 0)]⟩, [], tH t⟩)) = some (.normal, ⟨⟨236, [(1, .ptr 0 0)]⟩, [], tH t⟩)) : zaq Tryz.prog (om Tryz.prog) 183 [zag t] ⟨0, []⟩ = some (.bool (zhk t), ⟨0, []⟩) := by
 have i0 := zdq (show 0 < t.sub.length by omega)
 have w0 := zdb (show 0 < t.sub.length by omega)
 have l0 : decide ((t.sub.length : Int) = 0) = false := decide_eq_false (by omega)
 have l1 : decide ((t.sub.length : Int) = 1) = false := decide_eq_false (by omega)
 have l2 : decide ((t.sub.length : Int) = 2) = false := decide_eq_false (by omega)
 have l3 : decide ((t.sub.length : Int) = 3) = false := decide_eq_false (by omega)
 simp only [tH, zah, Int.natCast_zero] at L i0
 rw [znb _ _ (by simp)]
 simp (maxSteps := 1000000) -implicitDefEqProofs only [↓reduceIte, ↓cond_true, ↓cond_false, sr1, sr2, kA, seval, d183, zlx, n183, zmf, zmg, zmh, zmi, e183, tH, zag, zah, L, i0, w0, l0, l1, l2, l3, zcz, zj3 _ _ ho.b1, zdj _ ho.nm, zi8, zhk, Bool.and_assoc, Bool.or_assoc]
structure FOk (t : MTerm) : Prop where
 sz : t.sz < 2 ^ 62
 n : ∀ x ∈ t.nodes, NOk x
theorem FOk.sub {t x : MTerm} (h : FOk t) (hx : x ∈ t.sub) : FOk x :=
 ⟨by have := zk3 hx; have := h.sz; omega, fun y hy => h.n y (zg8 hx hy)⟩
theorem FOk.t {t : MTerm} (h : FOk t) : TOk t := ⟨h.sz, fun x hx => (h.n x hx).kd, fun x hx => (h.n x hx).nm⟩
theorem yacn (t : MTerm) (ho : FOk t) : zaq Tryz.prog (om Tryz.prog) 183 [zag t] ⟨0, []⟩ = some (.bool (zep t), ⟨0, []⟩) := by
 refine zda (Q := fun t => FOk t → zaq Tryz.prog (om Tryz.prog) 183 [zag t] ⟨0, []⟩ = some (.bool (zep t), ⟨0, []⟩)) (fun t ih ho => ?_) t ho
 have L := yak0 t ho.sz (fun x hx => ih x hx (ho.sub hx)) 0 (Nat.zero_le _)
 have e : zep t = (zhk t && t.sub.all zep) := zdv t
 have hn := ho.n t (zfy t)
 rw [List.drop_zero] at L
 rw [e]
 cases hb : t.sub.all zep with
 | true =>
  rw [hb] at L
  simp only [cond_true, Int.natCast_zero] at L
  rw [Bool.and_true]
  rcases (show t.sub.length = 0 ∨ t.sub.length = 1 ∨ t.sub.length = 2 ∨ t.sub.length = 3 ∨ 4 ≤ t.sub.length by omega) with h | h | h | h | h
  ·exact yay5 t hn h L
  ·exact yay6 t hn h L
  ·exact yay7 t hn h L
  ·exact yay8 t hn h L
  ·exact yay9 t hn h L
 | false =>
  rw [hb] at L
  simp only [tH, zah, cond_false, Int.natCast_zero] at L
  rw [znb _ _ (by simp)]
  simp (maxSteps := 1000000) -implicitDefEqProofs only [↓reduceIte, ↓cond_true, ↓cond_false, sr1, sr2, kA, seval, d183, zlx, n183, zmf, zmg, zmh, zmi, e183, tH, zag, zah, L]
def zgm (l : List MTerm) : List Bn := l.flatMap zh4
theorem yanu (t : MTerm) : zh4 t = (bif decide (t.kd = 2) then [(t.nm, t.wd)] else []) ++ zgm t.sub := by
 unfold zh4 zgm
 rw [zht, List.filter_cons]
 have : ∀ l : List MTerm, ((l.flatMap MTerm.nodes).filter fun x => decide (x.kd = 2)).map (fun x => (x.nm, x.wd)) = l.flatMap zh4 := by
  intro l
  induction l with
  | nil => rfl
  | cons x l ih => rw [List.flatMap_cons, List.filter_append, List.map_append, ih]; rfl
 cases h : decide (t.kd = 2) with
 | true => simp only [if_true, List.map_cons, cond_true, List.cons_append, List.nil_append, this]
 | false => simp only [Bool.false_eq_true, if_false, cond_false, List.nil_append, this]
theorem zm1 (t : MTerm) : (zh4 t).length ≤ t.sz := by
 unfold zh4; rw [List.length_map]; exact List.length_filter_le ..
theorem yad7 : ∀ l : List MTerm, (zgm l).length ≤ szL l
 | [] => by simp [zgm]
 | x :: l => by
  have h1 := yad7 l
  have h2 := zm1 x
  unfold zgm at h1 ⊢
  rw [List.flatMap_cons, List.length_append, zfc]; omega
def bnC : List Bn → List AV
 | [] => []
 | x :: l => .str x.1 :: .int .i64 x.2 :: .int .u64 0 :: bnC l
theorem yaq7 : bnC [] = [] := rfl
theorem zzu {x : Bn} {l : List Bn} : bnC (x :: l) = .str x.1 :: .int .i64 x.2 :: .int .u64 0 :: bnC l := rfl
theorem yae0 : ∀ {a b : List Bn}, bnC (a ++ b) = bnC a ++ bnC b
 | [], b => rfl
 | x :: a, b => by rw [List.cons_append, bnC, yae0]; rfl
theorem zxx : ∀ {l : List Bn}, (bnC l).length = l.length * 3
 | [] => rfl
 | x :: l => by rw [bnC, List.length_cons, List.length_cons, List.length_cons, zxx, List.length_cons]; omega
theorem zcv : ∀ {l : List Bn}, AV.refsL (bnC l) = []
 | [] => rfl
 | x :: l => by rw [bnC, refsL_cons, refsL_cons, refsL_cons, zcv]; rfl
theorem zdl {ρ : Nat → Nat} : ∀ {l : List Bn}, AV.renL ρ (bnC l) = bnC l
 | [] => rfl
 | x :: l => by rw [bnC, renL_cons, renL_cons, renL_cons, zdl]; rfl
theorem zve : ∀ {l : List Bn}, zby (bnC l) = true
 | [] => rfl
 | x :: l => by
  have := zve (l := l)
  simp [zby, zdr, bnC] at this ⊢; exact this
abbrev zbs : AV := .rsl none 0 0 []
theorem ya57 : zbl Tryz.prog 221 = some 3 := by kernel_rfl
theorem yawl {H : Heap} {e : TypeId} {w b m : Nat} {cs : List AV} (h : zsq Tryz.prog H b 0 m 3 = true) : appS Tryz.prog H e 3 w (.sl b 0 m 3) cs 0 = some (.sl b 0 m 3, H) := by
 simp [appS, h]
theorem yaqz {H : Heap} {b m k : Nat} {c cs : List AV} (hb : H.get b = some (.cells 221 c)) (hc : c.length = m * 3) (hs : cs.length = k * 3) (hk : k ≠ 0) (hl : zby cs = true) (hf : m + k ≤ 100000000) :
  appK Tryz.prog H 221 3 32 (.sl b 0 m 3) (some cs) (some k) = some (.sl H.next 0 (m + k) 3, (H.kill b).push (.cells 221 (c ++ cs))) := by
 rw [ap_some (by simp [hs, hl]), ap_sl hk, hb, apO_some ⟨hc, zdf hf (by decide)⟩]
theorem yafo {c : List AV} {m : Nat} (h : c.length = m * 3) : elO 3 (some (.cells 221 c)) 0 m = some c := by
 simp [elO, h]
 exact List.take_of_length_le (by omega)
abbrev cs1 (x : Bn) (l : List Bn) : List AV := .str x.1 :: .int .i64 x.2 :: .int .u64 0 :: bnC l
theorem zpt {x : Bn} {l : List Bn} : (cs1 x l).length = (l.length + 1) * 3 := by simp [cs1, zxx]; omega
theorem zvv {x : Bn} {l : List Bn} : zby (cs1 x l) = true := zve (l := x :: l)
def resG (l : List Bn) : Rx := if l = [] then some (.normal, ⟨⟨32, [(3, zbs)]⟩, [], ⟨0, []⟩⟩) else some (.normal, ⟨⟨32, [(3, .sl 0 0 l.length 3)]⟩, [], ⟨1, [some (.cells 221 (bnC l))]⟩⟩)
def valG (l : List Bn) : Rv := if l = [] then some (zbs, ⟨0, []⟩) else some (.sl 0 0 l.length 3, ⟨1, [some (.cells 221 (bnC l))]⟩)
theorem yabi : resG [] = some (.normal, ⟨⟨32, [(3, zbs)]⟩, [], ⟨0, []⟩⟩) := rfl
theorem zqz {x : Bn} {l : List Bn} : resG (x :: l) = some (.normal, ⟨⟨32, [(3, .sl 0 0 (l.length + 1) 3)]⟩, [], ⟨1, [some (.cells 221 (.str x.1 :: .int .i64 x.2 :: .int .u64 0 :: bnC l))]⟩⟩) := rfl
theorem zo9 : valG [] = some (zbs, ⟨0, []⟩) := rfl
theorem zjn {x : Bn} {l : List Bn} : valG (x :: l) = some (.sl 0 0 (l.length + 1) 3, ⟨1, [some (.cells 221 (.str x.1 :: .int .i64 x.2 :: .int .u64 0 :: bnC l))]⟩) := rfl
abbrev gH (t : MTerm) (x : Bn) (l : List Bn) : Heap := ⟨2, [some (.cells 120 t.cs), some (.cells 221 (.str x.1 :: .int .i64 x.2 :: .int .u64 0 :: bnC l))]⟩
theorem yagp (t : MTerm) (hz : t.sz < 1000000) (hS : ∀ x ∈ t.sub, zaq Tryz.prog (om Tryz.prog) 184 [zag x] ⟨0, []⟩ = valG (zh4 x)) :
  ∀ i, i ≤ t.sub.length → ∀ y l, l.length + 1 + szL (t.sub.drop i) ≤ 1000000 → lim (some [3]) 0 (blk 0 (om Tryz.prog ⟨184, none⟩ 0 (.loop (lpb Tryz.f184 0)) ⟨⟨32, [(1, .ptr 0 0), (3, .sl 1 0 (l.length + 1) 3), (4, .int .i64 i)]⟩, [], gH t y l⟩)) = resG (y :: (l ++ zgm (t.sub.drop i))) := by
 have hs := zfz t
 refine zb8 (fun y l hc => ?_) (fun i h ih y l hc => ?_) <;> rw [zae]
 ·simp (maxSteps := 1000000) -implicitDefEqProofs only [↓reduceIte, ↓cond_true, ↓cond_false, sr1, sr2, kA, seval, d184, n184, e184, gH, zah, List.drop_length, zqz, zcv, zdl, zgm]
 ·have e : szL (t.sub.drop i) = t.sub[i].sz + szL (t.sub.drop (i + 1)) := by rw [List.drop_eq_getElem_cons h, zfc]
  have e2 : zgm (t.sub.drop i) = zh4 t.sub[i] ++ zgm (t.sub.drop (i + 1)) := by rw [List.drop_eq_getElem_cons h]; rfl
  have hx := hS t.sub[i] (List.getElem_mem h)
  have hv := zm1 t.sub[i]
  rw [e] at hc
  rw [e2]
  cases hw : zh4 t.sub[i] with
  | nil =>
   have L := ih y l (by omega)
   rw [hw, zo9] at hx
   have a0 := yawl (H := gH t y l) (e := 221) (w := 32) (b := 1) (m := l.length + 1) (cs := []) (by simp [zsq, Heap.get, zhl, ya57, zxx]; omega)
   simp only [gH, zag, zah] at hx L a0
   simp (maxSteps := 1000000) -implicitDefEqProofs only [↓reduceIte, ↓cond_true, ↓cond_false, sr1, sr2, kA, seval, d184, n184, e184, gH, dlt_t h, wi_nat (show i < 2 ^ 62 by omega), zdq h, zag, zah, hx, L, a0, zcv, zdl]
  | cons z u =>
   rw [hw, zjn] at hx
   rw [hw] at hv
   have hv' : u.length + 1 ≤ t.sub[i].sz := hv
   have L := ih y (l ++ z :: u) (by simp; omega)
   rw [List.append_assoc] at L
   have a0 := yaqz (H := ⟨3, [some (.cells 120 t.cs), some (.cells 221 (cs1 y l)), some (.cells 221 (cs1 z u))]⟩) (b := 1) (c := cs1 y l) (cs := cs1 z u) (m := l.length + 1) (k := u.length + 1) rfl zpt zpt (by omega) zvv (by omega)
   have a1 := yafo (c := cs1 z u) zpt
   have e3 : l.length + (u.length + 1) + 1 = l.length + 1 + (u.length + 1) := by omega
   simp only [gH, zag, zah, yae0, zzu, List.length_append, List.length_cons, cs1, e3] at hx L a0 a1
   simp (maxSteps := 1000000) -implicitDefEqProofs only [↓reduceIte, ↓cond_true, ↓cond_false, sr1, sr2, kA, seval, d184, n184, e184, gH, dlt_t h, wi_nat (show i < 2 ^ 62 by omega), zdq h, zag, zah, hx, a1, a0, L, zcv, zdl]
theorem yato (t : MTerm) (hz : t.sz < 1000000) (hS : ∀ x ∈ t.sub, zaq Tryz.prog (om Tryz.prog) 184 [zag x] ⟨0, []⟩ = valG (zh4 x)) :
  ∀ i, i ≤ t.sub.length → szL (t.sub.drop i) ≤ 1000000 → lim (some [3]) 0 (blk 0 (om Tryz.prog ⟨184, none⟩ 0 (.loop (lpb Tryz.f184 0)) ⟨⟨32, [(1, .ptr 0 0), (3, zbs), (4, .int .i64 i)]⟩, [], tH t⟩)) = resG (zgm (t.sub.drop i)) := by
 have hs := zfz t
 refine zb8 (fun hc => ?_) (fun i h ih hc => ?_) <;> rw [zae]
 ·simp (maxSteps := 1000000) -implicitDefEqProofs only [↓reduceIte, ↓cond_true, ↓cond_false, sr1, sr2, kA, seval, d184, n184, e184, tH, zbs, zah, List.drop_length, yabi, zgm]
 ·have e : szL (t.sub.drop i) = t.sub[i].sz + szL (t.sub.drop (i + 1)) := by rw [List.drop_eq_getElem_cons h, zfc]
  have e2 : zgm (t.sub.drop i) = zh4 t.sub[i] ++ zgm (t.sub.drop (i + 1)) := by rw [List.drop_eq_getElem_cons h]; rfl
  have hx := hS t.sub[i] (List.getElem_mem h)
  have hv := zm1 t.sub[i]
  rw [e] at hc
  rw [e2]
  cases hw : zh4 t.sub[i] with
  | nil =>
   have L := ih (by omega)
   rw [hw, zo9] at hx
   simp only [tH, zbs, zag, zah] at hx L
   simp (maxSteps := 1000000) -implicitDefEqProofs only [↓reduceIte, ↓cond_true, ↓cond_false, sr1, sr2, kA, seval, d184, n184, e184, tH, zbs, dlt_t h, wi_nat (show i < 2 ^ 62 by omega), zdq h, zag, zah, hx, L]
  | cons z u =>
   rw [hw, zjn] at hx
   rw [hw] at hv
   have hv' : u.length + 1 ≤ t.sub[i].sz := hv
   have L := yagp t hz hS (i + 1) h z u (by omega)
   have a1 := yafo (c := cs1 z u) zpt
   have f1 : zsd 32 0 (u.length + 1) = true := zdf (by omega) (by decide)
   have l1 : zby (cs1 z u) = true := zvv
   have l2 : decide ((cs1 z u).length = (u.length + 1) * 3) = true := decide_eq_true zpt
   simp only [tH, zbs, gH, zag, zah, cs1] at hx L a1 l1 l2
   have a0 : ∀ H : Heap, appK Tryz.prog H 221 3 32 (.rsl none 0 0 []) (some (.str z.1 :: .int .i64 z.2 :: .int .u64 0 :: bnC u)) (some (u.length + 1)) = some (.sl H.next 0 (u.length + 1) 3, H.push (.cells 221 (.str z.1 :: .int .i64 z.2 :: .int .u64 0 :: bnC u))) := fun H => by
    rw [ap_some (by rw [l2, l1]; rfl), ap_nil, if_neg (by omega), f1]; rfl
   simp (maxSteps := 1000000) -implicitDefEqProofs only [↓reduceIte, ↓cond_true, ↓cond_false, sr1, sr2, kA, seval, d184, n184, e184, tH, zbs, dlt_t h, wi_nat (show i < 2 ^ 62 by omega), zdq h, zag, zah, hx, a1, a0, L, zcv, zdl]
theorem yaln (t : MTerm) (hz : t.sz < 1000000) : zaq Tryz.prog (om Tryz.prog) 184 [zag t] ⟨0, []⟩ = valG (zh4 t) := by
 refine zda (Q := fun t => t.sz < 1000000 → zaq Tryz.prog (om Tryz.prog) 184 [zag t] ⟨0, []⟩ = valG (zh4 t)) (fun t ih hz => ?_) t hz
 have hS := fun x (hx : x ∈ t.sub) => ih x hx (by have := zk3 hx; omega)
 have hq := zus t
 rw [yanu]
 rw [yasb _ _ (by simp)]
 cases hk : decide (t.kd = 2) with
 | false =>
  have L := yato t hz hS 0 (Nat.zero_le _) (by rw [List.drop_zero]; omega)
  rw [List.drop_zero] at L
  simp only [cond_false, List.nil_append]
  cases hv : zgm t.sub with
  | nil =>
   rw [hv, yabi] at L
   simp only [tH, zbs, zah, Int.natCast_zero] at L
   simp (maxSteps := 1000000) -implicitDefEqProofs only [↓reduceIte, ↓cond_true, ↓cond_false, sr1, sr2, kA, seval, d184, n184, e184, zag, zah, hk, L, zo9, zbs]
  | cons z u =>
   rw [hv, zqz] at L
   simp only [tH, zbs, zah, Int.natCast_zero] at L
   simp (maxSteps := 1000000) -implicitDefEqProofs only [↓reduceIte, ↓cond_true, ↓cond_false, sr1, sr2, kA, seval, d184, n184, e184, zag, zah, hk, L, zjn, zcv, zdl]
 | true =>
  have L := yagp t hz hS 0 (Nat.zero_le _) (t.nm, t.wd) [] (by rw [List.drop_zero]; simp; omega)
  rw [List.drop_zero, List.nil_append, zqz] at L
  simp only [gH, zah, Int.natCast_zero, List.length_nil, Nat.zero_add, yaq7] at L
  simp only [cond_true, List.cons_append, List.nil_append]
  simp (maxSteps := 1000000) -implicitDefEqProofs only [↓reduceIte, ↓cond_true, ↓cond_false, sr1, sr2, kA, seval, d184, n184, e184, zag, zah, hk, L, zjn, zcv, zdl, zdf]
end Go.Proofs.YtcfcphhamfhfcaaGreatDoor.v
