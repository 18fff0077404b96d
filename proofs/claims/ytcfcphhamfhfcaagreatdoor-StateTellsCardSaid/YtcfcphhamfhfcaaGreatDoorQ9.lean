/- What the law's proof leans on, part 28. Conditions: in each statement. -/
import Derived.Test.YtcfcphhamfhfcaaGreatDoorQ8
set_option linter.all false
namespace Go.Proofs.YtcfcphhamfhfcaaGreatDoor.v
open Go Go.Ab
set_option maxRecDepth 100000
set_option maxHeartbeats 4000000
set_option linter.unusedSimpArgs false
set_option linter.unusedVariables false
def cmpS (c : MCell) (t : Int) : Int := bif decide (c.at_ < t) then -1 else bif decide (t < c.at_) then 1 else 0
theorem yafb (c : MCell) (t : Int) : zaq Tryz.prog (om Tryz.prog) 141 [za0 c, .int .u64 t] ⟨0, []⟩ = some (.int .i64 (cmpS c t), ⟨0, []⟩) := by
 unfold cmpS
 rw [yarr _ _ (by simp)]
 cases h1 : decide (c.at_ < t) with
 | true => simp (maxSteps := 1000000) -implicitDefEqProofs only [↓reduceIte, ↓cond_true, ↓cond_false, sr1, sr2, kA, seval, d141, n141, za0, h1]
 | false =>
  cases h2 : decide (t < c.at_) with
  | true => simp (maxSteps := 1000000) -implicitDefEqProofs only [↓reduceIte, ↓cond_true, ↓cond_false, sr1, sr2, kA, seval, d141, n141, za0, h1, h2]
  | false => simp (maxSteps := 1000000) -implicitDefEqProofs only [↓reduceIte, ↓cond_true, ↓cond_false, sr1, sr2, kA, seval, d141, n141, za0, h1, h2]
theorem yaoi {c : MCell} {t : Int} : decide (cmpS c t < 0) = decide (c.at_ < t) := by
 unfold cmpS
 cases h1 : decide (c.at_ < t) with
 | true => rfl
 | false => cases h2 : decide (t < c.at_) <;> rfl
theorem yayf {c : MCell} {t : Int} : decide (cmpS c t = 0) = decide (c.at_ = t) := by
 unfold cmpS
 cases h1 : decide (c.at_ < t) with
 | true =>
  have := of_decide_eq_true h1
  rw [decide_eq_false (show ¬ c.at_ = t by omega)]; rfl
 | false =>
  have := of_decide_eq_false h1
  cases h2 : decide (t < c.at_) with
  | true =>
   have := of_decide_eq_true h2
   rw [decide_eq_false (show ¬ c.at_ = t by omega)]; rfl
  | false =>
   have := of_decide_eq_false h2
   rw [decide_eq_true (show c.at_ = t by omega)]; rfl
theorem ya3h (v : Sv) (l : List MCell) (hv : SvOk v 2 l.length) (hl : l.length < 1000000) (ha : Asc (ats l)) (t : Int) : ∀ d i j, j - i = d → i ≤ j → j ≤ l.length → (∀ k (hk : k < (ats l).length), k < i → (ats l)[k] < t) → (∀ k (hk : k < (ats l).length), j ≤ k → t ≤ (ats l)[k]) →
  lim (some [0, 1, 2, 8, 9]) 0 (blk 0 (om Tryz.prog ⟨140, none⟩ 0 (.loop (lpb Tryz.f140 0)) ⟨⟨49, [(0, .rsl v.a v.c v.z (l.map za0)), (1, .int .u64 t), (2, .func 141 [] []), (8, .int .i64 l.length), (9, .int .i64 i), (10, .int .i64 j)]⟩, [], ⟨0, []⟩⟩)) = some (.normal, ⟨⟨49, [(0, .rsl v.a v.c v.z (l.map za0)), (1, .int .u64 t), (2, .func 141 [] []), (8, .int .i64 l.length), (9, .int .i64 (zle (ats l) t))]⟩, [], ⟨0, []⟩⟩) := by
 have hq := fun c => yafb c t
 simp only [za0] at hq
 intro d
 induction d using Nat.strongRecOn with
 | _ d ih =>
 intro i j hd hij hj h1 h2
 rw [zae]
 by_cases hlt : i < j
 ·have hm : (i + j) / 2 < l.length := by omega
  have e0 : IntKind.i64.wrap ((i : Int) + (j : Int)) = ((i + j : Nat) : Int) := zrc (by omega)
  have e1 : IntKind.u64.wrap ((i + j : Nat) : Int) = ((i + j : Nat) : Int) := ze0 (by omega) (by omega)
  have e2 : zdp .shr .u64 ((i + j : Nat) : Int) 1 = some (.int .u64 (((i + j) / 2 : Nat) : Int)) := by
   unfold zdp
   rw [if_neg (by omega)]
   simp only [Int.reduceToNat]
   have : ((i + j : Nat) : Int).fdiv (2 ^ min 1 IntKind.u64.bits) = (((i + j) / 2 : Nat) : Int) := by
    rw [show min 1 IntKind.u64.bits = 1 from rfl, Int.fdiv_eq_ediv_of_nonneg _ (by decide)]
    omega
   rw [this]
  have e3 : IntKind.i64.wrap (((i + j) / 2 : Nat) : Int) = (((i + j) / 2 : Nat) : Int) := zjp (by omega) (by omega)
  have hx := zl7 (f := za0) (k := .i64) hv hm
  have asc : ∀ a b (hb : b < (ats l).length) (hab : a < b), (ats l)[a]'(by omega) < (ats l)[b] := fun a b hb hab => List.pairwise_iff_getElem.1 ha a b (by omega) hb hab
  have hm2 : (i + j) / 2 < (ats l).length := by rw [zil]; exact hm
  have hat := zr3 hm
  cases hc : decide (l[(i + j) / 2].at_ < t) with
  | true =>
   have hc' := of_decide_eq_true hc
   have K := ih (j - ((i + j) / 2 + 1)) (by omega) ((i + j) / 2 + 1) j rfl (by omega) hj (fun k hk hki => by
    by_cases q : k = (i + j) / 2
    ·subst q; omega
    ·have := asc k ((i + j) / 2) hm2 (by omega); omega) h2
   simp (maxSteps := 1000000) -implicitDefEqProofs only [↓reduceIte, ↓cond_true, ↓cond_false, sr1, sr2, kA, seval, d140, n140, e140, dlt_t hlt, e0, e1, e2, e3, hx, za0, hq, yaoi, hc, wi_nat (show (i + j) / 2 < 2 ^ 62 by omega), K]
  | false =>
   have hc' := of_decide_eq_false hc
   have K := ih ((i + j) / 2 - i) (by omega) i ((i + j) / 2) rfl (by omega) (by omega) h1 (fun k hk hki => by
    by_cases q : k = (i + j) / 2
    ·subst q; omega
    ·have := asc ((i + j) / 2) k hk (by omega); omega)
   simp (maxSteps := 1000000) -implicitDefEqProofs only [↓reduceIte, ↓cond_true, ↓cond_false, sr1, sr2, kA, seval, d140, n140, e140, dlt_t hlt, e0, e1, e2, e3, hx, za0, hq, yaoi, hc, K]
 ·have e : i = j := by omega
  subst e
  have hp := yagu (l := ats l) (by rw [zil]; exact hj) h1 h2
  simp (maxSteps := 1000000) -implicitDefEqProofs only [↓reduceIte, ↓cond_true, ↓cond_false, sr1, sr2, kA, seval, d140, n140, e140, hp]
theorem yaq8 (v : Sv) (l : List MCell) (hv : SvOk v 2 l.length) (hl : l.length < 1000000) (ha : Asc (ats l)) (t : Int) : zaq Tryz.prog (om Tryz.prog) 140 [.rsl v.a v.c v.z (l.map za0), .int .u64 t, .func 141 [] []] ⟨0, []⟩ = some (.tup [.int .i64 (zle (ats l) t), .bool (zkk l t)], ⟨0, []⟩) := by
 have K := ya3h v l hv hl ha t l.length 0 l.length rfl (Nat.zero_le _) (Nat.le_refl _) (fun k _ h => absurd h (Nat.not_lt_zero _)) (fun k hk h => absurd hk (by rw [zil]; omega))
 have hle : zle (ats l) t ≤ l.length := by have : zle (ats l) t ≤ (ats l).length := List.countP_le_length; rw [zil] at this; exact this
 have hq := fun c => yafb c t
 simp only [za0] at hq
 simp only [Int.natCast_zero] at K
 rw [yarq _ _ (by simp)]
 by_cases h : zle (ats l) t < l.length
 ·have hx := zl7 (f := za0) (k := .i64) hv h
  have hd : decide ((zle (ats l) t : Int) < (l.length : Int)) = true := decide_eq_true (by omega)
  have em : zkk l t = decide (l[zle (ats l) t].at_ = t) := by unfold zkk; rw [List.getElem?_eq_getElem h]
  simp (maxSteps := 1000000) -implicitDefEqProofs only [↓reduceIte, ↓cond_true, ↓cond_false, sr1, sr2, kA, seval, d140, n140, e140, K, hd, hx, za0, hq, yayf, em]
 ·have hd : decide ((zle (ats l) t : Int) < (l.length : Int)) = false := decide_eq_false (by omega)
  have em : zkk l t = false := by unfold zkk; rw [List.getElem?_eq_none (by omega)]
  simp (maxSteps := 1000000) -implicitDefEqProofs only [↓reduceIte, ↓cond_true, ↓cond_false, sr1, sr2, kA, seval, d140, n140, e140, K, hd, em]
def zgw (A : Nat) (t : Int) (l : List MCell) (i : Nat) : Int := zeo l ((t + (i : Int)) % (2 ^ A : Nat))
theorem znf {A : Nat} {t : Int} {l : List MCell} (h : BOk l) (i : Nat) : 0 ≤ zgw A t l i ∧ zgw A t l i < 256 := yake h _
theorem yauv {x : Int} {k : Nat} (h0 : 0 ≤ x) (hk : k ≤ 64) (h1 : x * (2 ^ k : Nat) < 18446744073709551616) : zdp .shl .u64 x (k : Int) = some (.int .u64 (x * (2 ^ k : Nat))) := by
 unfold zdp
 rw [if_neg (by omega)]
 simp only
 rw [Int.toNat_natCast, show min k IntKind.u64.bits = k by simp only [IntKind.bits]; omega]
 have e : x * (2 : Int) ^ k = x * (2 ^ k : Nat) := by simp
 rw [e, ze0 (Int.mul_nonneg h0 (by exact_mod_cast Nat.zero_le _)) h1]
theorem yalq (v : Sv) (l : List MCell) (hv : SvOk v 2 l.length) (hl : l.length < 1000000) (ha : Asc (ats l)) (hb : BOk l) (A : Nat) (h1 : 1 ≤ A) (h2 : A ≤ 40) (t : Int) (t0 : 0 ≤ t) (t1 : t < 2 ^ 40) (n : Nat) (hn : n ≤ 8) : ∀ i, i ≤ n →
  lim (some [9]) 0 (blk 0 (om Tryz.prog ⟨101, none⟩ 0 (.loop (lpb Tryz.f101 0)) ⟨⟨46, [(0, .rsl v.a v.c v.z (l.map za0)), (1, .int .i64 A), (2, .int .u64 t), (9, .int .u64 (zsh (zgw A t l) i)), (15, .int .i64 n), (16, .int .i64 i)]⟩, [], ⟨0, []⟩⟩)) = some (.normal, ⟨⟨46, [(9, .int .u64 (zsh (zgw A t l) n))]⟩, [], ⟨0, []⟩⟩) := by
 refine zb8 ?_ (fun i h ih => ?_) <;> rw [zae]
 ·simp (maxSteps := 1000000) -implicitDefEqProofs only [↓reduceIte, ↓cond_true, ↓cond_false, sr1, sr2, kA, seval, d101, n101, e101, List.map_nil]
 ·have wu : IntKind.u64.wrap (i : Int) = (i : Int) := ze0 (by omega) (by omega)
  have wa : IntKind.u64.wrap (t + (i : Int)) = t + (i : Int) := ze0 (by omega) (by omega)
  have em := zeb h1 (show A ≤ 64 by omega)
  have ea := zpf (x := t + (i : Int)) (by omega) (by omega) (show A ≤ 64 by omega)
  have hs := yaq8 v l hv hl ha ((t + (i : Int)) % (2 ^ A : Nat))
  have lt := zyj (znf (A := A) (t := t) hb) i
  have lt2 := zyj (znf (A := A) (t := t) hb) (i + 1)
  have p8 : 2 ^ (8 * (i + 1)) ≤ 2 ^ 64 := Nat.pow_le_pow_right (by decide) (by omega)
  have bl := znf hb (A := A) (t := t) i
  have st : zsh (zgw A t l) (i + 1) = zsh (zgw A t l) i + zgw A t l i * (2 ^ (8 * i) : Nat) := rfl
  cases hf : zkk l ((t + (i : Int)) % (2 ^ A : Nat)) with
  | true =>
   rw [hf] at hs
   obtain ⟨hp, eb⟩ := yafv ha hf
   have eb' : l[zle (ats l) ((t + (i : Int)) % (2 ^ A : Nat))].byte = zgw A t l i := eb
   have hx := zl7 (f := za0) (k := .i64) hv hp
   have wb : IntKind.u64.wrap (zgw A t l i) = zgw A t l i := ze0 (by omega) (by omega)
   have w8 : IntKind.i64.wrap (8 * (i : Int)) = ((8 * i : Nat) : Int) := by rw [zjp (by omega) (by omega)]; omega
   have up : zgw A t l i * (2 ^ (8 * i) : Nat) < 18446744073709551616 ∧ zsh (zgw A t l) i + zgw A t l i * (2 ^ (8 * i) : Nat) < 18446744073709551616 := by
    rw [← st]
    have : zsh (zgw A t l) (i + 1) < 18446744073709551616 := by omega
    omega
   have sh := yauv bl.1 (show 8 * i ≤ 64 by omega) up.1
   have eo := yauh lt.1 lt.2 bl.1 up.2
   rw [← st] at eo
   simp (maxSteps := 1000000) -implicitDefEqProofs only [↓reduceIte, ↓cond_true, ↓cond_false, sr1, sr2, kA, seval, d101, n101, e101, dlt_t h, wi_nat (show i < 2 ^ 62 by omega), wu, wa, zhq, em, zm6, ea, hs, hx, za0, eb', wb, w8, sh, yahj, eo, ih]
  | false =>
   rw [hf] at hs
   have z : zgw A t l i = 0 := yak1 ha hf
   rw [z, Int.zero_mul, Int.add_zero] at st
   rw [st] at ih
   simp (maxSteps := 1000000) -implicitDefEqProofs only [↓reduceIte, ↓cond_true, ↓cond_false, sr1, sr2, kA, seval, d101, n101, e101, dlt_t h, wi_nat (show i < 2 ^ 62 by omega), wu, wa, zhq, em, zm6, ea, hs, ih]
theorem yac2 (v : Sv) (l : List MCell) (hv : SvOk v 2 l.length) (hl : l.length < 1000000) (ha : Asc (ats l)) (hb : BOk l) (A : Nat) (h1 : 1 ≤ A) (h2 : A ≤ 40) (t : Int) (t0 : 0 ≤ t) (t1 : t < 2 ^ 40) (n : Nat) (hn : n ≤ 8) (w : Int) (hw : w = 8 * (n : Int)) : zaq Tryz.prog (om Tryz.prog) 101 [.rsl v.a v.c v.z (l.map za0), .int .i64 A, .int .u64 t, .int .i64 w] ⟨0, []⟩ = some (.int .u64 (zsh (zgw A t l) n), ⟨0, []⟩) := by
 have K := yalq v l hv hl ha hb A h1 h2 t t0 t1 n hn 0 (Nat.zero_le _)
 have eq : IntKind.i64.wrap (w.tdiv 8) = (n : Int) := by
  subst hw
  rw [Int.tdiv_eq_ediv_of_nonneg (by omega), zjp (by omega) (by omega)]; omega
 have h8 : (8 : Int) ≠ 0 := by decide
 simp only [Int.natCast_zero, zsh] at K
 rw [yarb _ _ (by simp)]
 simp (maxSteps := 1000000) -implicitDefEqProofs only [↓reduceIte, ↓cond_true, ↓cond_false, sr1, sr2, kA, seval, d101, n101, e101, in_quo h8, eq, K]
theorem zyi {w : Int} (h : zg4 w = true) : ∃ n : Nat, w = 8 * (n : Int) ∧ 1 ≤ n ∧ n ≤ 8 := by
 unfold zg4 at h
 simp only [Bool.or_eq_true, decide_eq_true_eq] at h
 exact ⟨(w / 8).toNat, by omega, by omega, by omega⟩
theorem yaix (v : Sv) (l : List MCell) (hv : SvOk v 2 l.length) (hl : l.length < 1000000) (hc : zh8 l = true) (hb : BOk l) (A : Nat) (h1 : 1 ≤ A) (h2 : A ≤ 40) (t : Int) (t0 : 0 ≤ t) (ht : okB (A : Int) t = true) (n : Nat) (w : Int) (hw : zg4 w = true) (hn : w = 8 * (n : Int)) : zaq Tryz.prog (om Tryz.prog) 53 [.rsl v.a v.c v.z (l.map za0), .int .i64 A, .int .u64 t, .int .i64 w] ⟨0, []⟩ = some (.tup [.int .u64 (zsh (zgw A t l) n), .int .i64 0], ⟨0, []⟩) := by
 have hC := zvn v l hv (by omega)
 rw [hc] at hC
 have t1 : t < 2 ^ 40 := by
  unfold okB at ht
  rw [Bool.and_eq_true, decide_eq_true_iff, zeb h1 (by omega)] at ht
  have p : 2 ^ A ≤ 2 ^ 40 := Nat.pow_le_pow_right (by decide) h2
  have q := Nat.two_pow_pos A
  omega
 obtain ⟨k, e, k1, k2⟩ := zyi hw
 have hL := yac2 v l hv hl (zvm hc) hb A h1 h2 t t0 t1 n (by omega) w hn
 have hi : inR (A : Int) 1 64 = true := by simp [inR]; omega
 rw [yaxg _ _ (by simp)]
 simp (maxSteps := 1000000) -implicitDefEqProofs only [↓reduceIte, ↓cond_true, ↓cond_false, sr1, sr2, kA, seval, d53, n53, hC, zef, hi, zn5, hw, zmj, ht, hL]
theorem zpq {m : MMach} {s : MState} (h : zpp m s = 0) : zb1 m = 0 ∧ zjo m s = true := by
 unfold zpp at h
 cases h1 : decide (zb1 m = 0) with
 | false =>
  rw [h1] at h
  simp only [cond_false] at h
  exact absurd h (of_decide_eq_false h1)
 | true =>
  refine ⟨of_decide_eq_true h1, ?_⟩
  rw [h1] at h
  cases h2 : zjo m s with
  | true => rfl
  | false => rw [h2] at h; simp at h
structure VOk (m : MMach) (s : MState) : Prop where
 l : s.regs.length = (za1 m).length
 c : zh8 s.mem = true
 r : ∀ i, i < s.regs.length → rgOk m s.regs i = true
theorem zm0 {m : MMach} {s : MState} (h : zjo m s = true) : VOk m s := by
 unfold zjo zp5 at h
 simp only [Bool.and_eq_true, decide_eq_true_eq, zbe] at h
 obtain ⟨⟨h1, h2, _⟩, h3, _⟩ := h
 exact ⟨by omega, h2, fun i hi => h3 i (Nat.zero_le _) (by omega)⟩
structure StNum2 (s : MState) : Prop where
 n : StNum s
 b : BOk s.mem
 l : s.mem.length < 1000000
def regA (m : MMach) (s : MState) (x : Int) : AV := bif decide (zpp m s = 0) then zyx m s.regs x else .tup [.int .u64 0, .int .i64 (zpp m s)]
theorem zqy {m : MMach} {l : List Int} {x : Int} : ∃ a b, zyx m l x = .tup [.int .u64 a, .int .i64 b] := by
 unfold zyx
 cases inR x 0 ((m.regs.length : Int) - 1)
 ·exact ⟨_, _, rfl⟩
 ·exact ⟨_, _, rfl⟩
theorem zuh (m : MMach) (hm : MOk m) (r v : Sv) (s : MState) (hs : StOk r v s) (hn : StNum s) (x : Int) : zaq Tryz.prog (om Tryz.prog) 19 [zac m, stV r v s, .int .i64 x] ⟨0, []⟩ = some (regA m s x, ⟨0, []⟩) := by
 have hC := zfk m hm r v s hs
 unfold regA
 cases hc : decide (zpp m s = 0) with
 | false =>
  simp only [zac, zad, stV] at hC
  rw [yan6 _ _ (by simp)]
  simp (maxSteps := 1000000) -implicitDefEqProofs only [↓reduceIte, ↓cond_true, ↓cond_false, sr1, sr2, kA, seval, d19, n19, zac, zad, stV, hC, hc]
 | true =>
  have h' := of_decide_eq_true hc
  obtain ⟨g1, g2⟩ := zpq h'
  have V := zm0 g2
  have hR := yamo m hm g1 r s.regs hs.r hn.r V.l V.r x
  rw [h'] at hC
  obtain ⟨a, b, e⟩ := zqy (m := m) (l := s.regs) (x := x)
  rw [e] at hR ⊢
  simp only [zac, zad, stV] at hC hR
  rw [yan6 _ _ (by simp)]
  simp (maxSteps := 1000000) -implicitDefEqProofs only [↓reduceIte, ↓cond_true, ↓cond_false, sr1, sr2, kA, seval, d19, n19, zac, zad, stV, hC, hR]
theorem zms (m : MMach) (hm : NOk8 m) (r v : Sv) (s : MState) (hs : StOk r v s) (hn : StNum s) (x : Int) : zaq Tryz.prog (om Tryz.prog) 20 [zac m, stV r v s, .int .i64 x] ⟨0, []⟩ = some (regA m s x, ⟨0, []⟩) := by
 have hC := zdm m hm r v s hs hn
 unfold regA
 cases hc : decide (zpp m s = 0) with
 | false =>
  simp only [zac, zad, stV] at hC
  rw [yan7 _ _ (by simp)]
  simp (maxSteps := 1000000) -implicitDefEqProofs only [↓reduceIte, ↓cond_true, ↓cond_false, sr1, sr2, kA, seval, d20, n20, zac, zad, stV, hC, hc]
 | true =>
  have h' := of_decide_eq_true hc
  obtain ⟨g1, g2⟩ := zpq h'
  have V := zm0 g2
  have hR := yahx m hm g1 r s.regs hs.r hn.r V.l V.r x
  rw [h'] at hC
  obtain ⟨a, b, e⟩ := zqy (m := m) (l := s.regs) (x := x)
  rw [e] at hR ⊢
  simp only [zac, zad, stV] at hC hR
  rw [yan7 _ _ (by simp)]
  simp (maxSteps := 1000000) -implicitDefEqProofs only [↓reduceIte, ↓cond_true, ↓cond_false, sr1, sr2, kA, seval, d20, n20, zac, zad, stV, hC, hR]
def accS (m : MMach) (s : MState) (t w : Int) : Int := bif decide (zpp m s = 0) then (bif zg4 w then (bif decide (t ≤ zcb m.address) then 0 else 2) else 14) else zpp m s
theorem yaca (m : MMach) (hm : MOk m) (r v : Sv) (s : MState) (hs : StOk r v s) (t w : Int) : zaq Tryz.prog (om Tryz.prog) 52 [zac m, stV r v s, .int .u64 t, .int .i64 w] ⟨0, []⟩ = some (.int .i64 (accS m s t w), ⟨0, []⟩) := by
 have hC := zfk m hm r v s hs
 simp only [zac, zad, stV] at hC
 unfold accS
 rw [yaxf _ _ (by simp)]
 cases hc : decide (zpp m s = 0) with
 | false => simp (maxSteps := 1000000) -implicitDefEqProofs only [↓reduceIte, ↓cond_true, ↓cond_false, sr1, sr2, kA, seval, d52, n52, zac, zad, stV, hC, hc]
 | true =>
  obtain ⟨g1, g2⟩ := zpq (of_decide_eq_true hc)
  have ho := zmj m.address t
  have ea : okB m.address t = decide (t ≤ zcb m.address) := by unfold okB; rw [zu7 g1, Bool.true_and]
  rw [ea] at ho
  unfold zg4
  cases w1 : decide (w = 8) with
  | true =>
   cases ht : decide (t ≤ zcb m.address) with
   | true => simp (maxSteps := 1000000) -implicitDefEqProofs only [↓reduceIte, ↓cond_true, ↓cond_false, sr1, sr2, kA, seval, d52, n52, zac, zad, stV, hC, hc, w1, ho, ht]
   | false => simp (maxSteps := 1000000) -implicitDefEqProofs only [↓reduceIte, ↓cond_true, ↓cond_false, sr1, sr2, kA, seval, d52, n52, zac, zad, stV, hC, hc, w1, ho, ht]
  | false =>
  cases w2 : decide (w = 16) with
  | true =>
   cases ht : decide (t ≤ zcb m.address) with
   | true => simp (maxSteps := 1000000) -implicitDefEqProofs only [↓reduceIte, ↓cond_true, ↓cond_false, sr1, sr2, kA, seval, d52, n52, zac, zad, stV, hC, hc, w1, w2, ho, ht]
   | false => simp (maxSteps := 1000000) -implicitDefEqProofs only [↓reduceIte, ↓cond_true, ↓cond_false, sr1, sr2, kA, seval, d52, n52, zac, zad, stV, hC, hc, w1, w2, ho, ht]
  | false =>
  cases w3 : decide (w = 32) with
  | true =>
   cases ht : decide (t ≤ zcb m.address) with
   | true => simp (maxSteps := 1000000) -implicitDefEqProofs only [↓reduceIte, ↓cond_true, ↓cond_false, sr1, sr2, kA, seval, d52, n52, zac, zad, stV, hC, hc, w1, w2, w3, ho, ht]
   | false => simp (maxSteps := 1000000) -implicitDefEqProofs only [↓reduceIte, ↓cond_true, ↓cond_false, sr1, sr2, kA, seval, d52, n52, zac, zad, stV, hC, hc, w1, w2, w3, ho, ht]
  | false =>
  cases w4 : decide (w = 64) with
  | true =>
   cases ht : decide (t ≤ zcb m.address) with
   | true => simp (maxSteps := 1000000) -implicitDefEqProofs only [↓reduceIte, ↓cond_true, ↓cond_false, sr1, sr2, kA, seval, d52, n52, zac, zad, stV, hC, hc, w1, w2, w3, w4, ho, ht]
   | false => simp (maxSteps := 1000000) -implicitDefEqProofs only [↓reduceIte, ↓cond_true, ↓cond_false, sr1, sr2, kA, seval, d52, n52, zac, zad, stV, hC, hc, w1, w2, w3, w4, ho, ht]
  | false => simp (maxSteps := 1000000) -implicitDefEqProofs only [↓reduceIte, ↓cond_true, ↓cond_false, sr1, sr2, kA, seval, d52, n52, zac, zad, stV, hC, hc, w1, w2, w3, w4]
theorem zu6 (m : MMach) (hm : NOk8 m) (r v : Sv) (s : MState) (hs : StOk r v s) (hn : StNum s) (t w : Int) : zaq Tryz.prog (om Tryz.prog) 54 [zac m, stV r v s, .int .u64 t, .int .i64 w] ⟨0, []⟩ = some (.int .i64 (accS m s t w), ⟨0, []⟩) := by
 have hC := zdm m hm r v s hs hn
 have ho := zj1 m.address
 have et : decide (zcb m.address < t) = !decide (t ≤ zcb m.address) := by rw [zbg, Bool.not_not]
 simp only [zac, zad, stV] at hC
 unfold accS
 rw [yaxh _ _ (by simp)]
 cases hc : decide (zpp m s = 0) with
 | false => simp (maxSteps := 1000000) -implicitDefEqProofs only [↓reduceIte, ↓cond_true, ↓cond_false, sr1, sr2, kA, seval, d54, n54, zac, zad, stV, hC, hc]
 | true =>
  unfold zg4
  cases w1 : decide (w = 8) with
  | true =>
   cases ht : decide (t ≤ zcb m.address) with
   | true => simp (maxSteps := 1000000) -implicitDefEqProofs only [↓reduceIte, ↓cond_true, ↓cond_false, sr1, sr2, kA, seval, d54, n54, zac, zad, stV, hC, hc, w1, ho, et, ht]
   | false => simp (maxSteps := 1000000) -implicitDefEqProofs only [↓reduceIte, ↓cond_true, ↓cond_false, sr1, sr2, kA, seval, d54, n54, zac, zad, stV, hC, hc, w1, ho, et, ht]
  | false =>
  cases w2 : decide (w = 16) with
  | true =>
   cases ht : decide (t ≤ zcb m.address) with
   | true => simp (maxSteps := 1000000) -implicitDefEqProofs only [↓reduceIte, ↓cond_true, ↓cond_false, sr1, sr2, kA, seval, d54, n54, zac, zad, stV, hC, hc, w1, w2, ho, et, ht]
   | false => simp (maxSteps := 1000000) -implicitDefEqProofs only [↓reduceIte, ↓cond_true, ↓cond_false, sr1, sr2, kA, seval, d54, n54, zac, zad, stV, hC, hc, w1, w2, ho, et, ht]
  | false =>
  cases w3 : decide (w = 32) with
  | true =>
   cases ht : decide (t ≤ zcb m.address) with
   | true => simp (maxSteps := 1000000) -implicitDefEqProofs only [↓reduceIte, ↓cond_true, ↓cond_false, sr1, sr2, kA, seval, d54, n54, zac, zad, stV, hC, hc, w1, w2, w3, ho, et, ht]
   | false => simp (maxSteps := 1000000) -implicitDefEqProofs only [↓reduceIte, ↓cond_true, ↓cond_false, sr1, sr2, kA, seval, d54, n54, zac, zad, stV, hC, hc, w1, w2, w3, ho, et, ht]
  | false =>
  cases w4 : decide (w = 64) with
  | true =>
   cases ht : decide (t ≤ zcb m.address) with
   | true => simp (maxSteps := 1000000) -implicitDefEqProofs only [↓reduceIte, ↓cond_true, ↓cond_false, sr1, sr2, kA, seval, d54, n54, zac, zad, stV, hC, hc, w1, w2, w3, w4, ho, et, ht]
   | false => simp (maxSteps := 1000000) -implicitDefEqProofs only [↓reduceIte, ↓cond_true, ↓cond_false, sr1, sr2, kA, seval, d54, n54, zac, zad, stV, hC, hc, w1, w2, w3, w4, ho, et, ht]
  | false => simp (maxSteps := 1000000) -implicitDefEqProofs only [↓reduceIte, ↓cond_true, ↓cond_false, sr1, sr2, kA, seval, d54, n54, zac, zad, stV, hC, hc, w1, w2, w3, w4]
def zmc (m : MMach) (s : MState) (t w : Int) : AV := bif decide (accS m s t w = 0) then .tup [.int .u64 (zsh (zgw m.address.toNat t s.mem) (w / 8).toNat), .int .i64 0] else .tup [.int .u64 0, .int .i64 (accS m s t w)]
structure AccOk (m : MMach) (s : MState) (t w : Int) : Prop where
 c : zpp m s = 0
 w : zg4 w = true
 t : t ≤ zcb m.address
theorem yan0 {m : MMach} {s : MState} {t w : Int} (h : accS m s t w = 0) : AccOk m s t w := by
 unfold accS at h
 cases h1 : decide (zpp m s = 0) with
 | false =>
  rw [h1] at h
  simp only [cond_false] at h
  exact absurd h (of_decide_eq_false h1)
 | true =>
  rw [h1] at h
  cases h2 : zg4 w with
  | false => rw [h2] at h; simp at h
  | true =>
   rw [h2] at h
   cases h3 : decide (t ≤ zcb m.address) with
   | false => rw [h3] at h; simp at h
   | true => exact ⟨of_decide_eq_true h1, h2, of_decide_eq_true h3⟩
theorem zsz {m : MMach} (h : zb1 m = 0) : ∃ A : Nat, m.address = (A : Int) ∧ 1 ≤ A ∧ A ≤ 40 := by
 rcases yaau h with e | e
 ·exact ⟨16, e, by omega, by omega⟩
 ·exact ⟨32, e, by omega, by omega⟩
theorem zox (m : MMach) (hm : MOk m) (r v : Sv) (s : MState) (hs : StOk r v s) (hn : StNum2 s) (t w : Int) (t0 : 0 ≤ t) : zaq Tryz.prog (om Tryz.prog) 21 [zac m, stV r v s, .int .u64 t, .int .i64 w] ⟨0, []⟩ = some (zmc m s t w, ⟨0, []⟩) := by
 have hA := yaca m hm r v s hs t w
 simp only [zac, zad, stV] at hA
 unfold zmc
 rw [yawz _ _ (by simp)]
 cases ha : decide (accS m s t w = 0) with
 | false => simp (maxSteps := 1000000) -implicitDefEqProofs only [↓reduceIte, ↓cond_true, ↓cond_false, sr1, sr2, kA, seval, d21, n21, zac, zad, stV, hA, ha]
 | true =>
  have Y := yan0 (of_decide_eq_true ha)
  obtain ⟨g1, g2⟩ := zpq Y.c
  have V := zm0 g2
  obtain ⟨a, ea, a1, a2⟩ := zsz g1
  obtain ⟨n, en, n1, n2⟩ := zyi Y.w
  have ho : okB (a : Int) t = true := by
   unfold okB
   rw [← ea, zu7 g1, Bool.true_and]; exact decide_eq_true Y.t
  have hT := yaix v s.mem hs.v hn.l V.c hn.b a a1 a2 t t0 ho n w Y.w en
  have e1 : m.address.toNat = a := by omega
  have e2 : (w / 8).toNat = n := by omega
  rw [← ea] at hT
  rw [e1, e2]
  simp (maxSteps := 1000000) -implicitDefEqProofs only [↓reduceIte, ↓cond_true, ↓cond_false, sr1, sr2, kA, seval, d21, n21, zac, zad, stV, hA, ha, hT]
theorem zpe (m : MMach) (A : Nat) (hA : m.address = (A : Int)) (a2 : A ≤ 40) (t : Int) (t0 : 0 ≤ t) (t1 : t < 2 ^ 40) (i : Nat) (hi : i < 1000000) : zaq Tryz.prog (om Tryz.prog) 56 [zac m, .int .u64 t, .int .i64 i] ⟨0, []⟩ = some (.int .u64 ((t + (i : Int)) % (2 ^ A : Nat)), ⟨0, []⟩) := by
 have wu : IntKind.u64.wrap (i : Int) = (i : Int) := ze0 (by omega) (by omega)
 have wa : IntKind.u64.wrap (t + (i : Int)) = t + (i : Int) := ze0 (by omega) (by omega)
 have hp := zlh A (by omega)
 have p := Nat.two_pow_pos A
 have h0 : ((2 ^ A : Nat) : Int) ≠ 0 := by omega
 have et : (t + (i : Int)).tmod ((2 ^ A : Nat) : Int) = (t + (i : Int)) % (2 ^ A : Nat) := Int.tmod_eq_emod_of_nonneg (by omega)
 rw [← hA] at hp
 rw [yaxj _ _ (by simp)]
 simp (maxSteps := 1000000) -implicitDefEqProofs only [↓reduceIte, ↓cond_true, ↓cond_false, sr1, sr2, kA, seval, d56, n56, zac, zad, wu, wa, hp, in_rem h0, et]
theorem yakd (v : Sv) (l : List MCell) (hv : SvOk v 2 l.length) (hl : l.length < 1000000) (t : Int) : ∀ i, i ≤ l.length → nxt (lim (some []) 0 (blk 0 (om Tryz.prog ⟨55, none⟩ 0 (.loop (lpb Tryz.f55 0)) ⟨⟨24, [(0, .rsl v.a v.c v.z (l.map za0)), (1, .int .u64 t), (5, .int .i64 i)]⟩, [], ⟨0, []⟩⟩))) (Ox Tryz.prog ⟨55, none⟩ 0 (.seq (za9 Tryz.f55 6) .ret)) = some (.ret, ⟨⟨24, [(4, .int .u8 (zeo (l.drop i) t))]⟩, [], ⟨0, []⟩⟩) := by
 refine zb8 ?_ (fun i h ih => ?_) <;> rw [zae]
 ·simp (maxSteps := 1000000) -implicitDefEqProofs only [↓reduceIte, ↓cond_true, ↓cond_false, sr1, sr2, kA, seval, d55, n55, e55, List.drop_length, zeo]
 ·have hx := zl7 (f := za0) (k := .i64) hv h
  rw [yacf h]
  cases hc : decide (l[i].at_ = t) with
  | true => simp (maxSteps := 1000000) -implicitDefEqProofs only [↓reduceIte, ↓cond_true, ↓cond_false, sr1, sr2, kA, seval, d55, n55, e55, dlt_t h, hx, za0, hc]
  | false => simp (maxSteps := 1000000) -implicitDefEqProofs only [↓reduceIte, ↓cond_true, ↓cond_false, sr1, sr2, kA, seval, d55, n55, e55, dlt_t h, wi_nat (show i < 2 ^ 62 by omega), hx, za0, hc, ih]
theorem zm9 (v : Sv) (l : List MCell) (hv : SvOk v 2 l.length) (hl : l.length < 1000000) (t : Int) : zaq Tryz.prog (om Tryz.prog) 55 [.rsl v.a v.c v.z (l.map za0), .int .u64 t] ⟨0, []⟩ = some (.int .u8 (zeo l t), ⟨0, []⟩) := by
 have L := yakd v l hv hl t 0 (Nat.zero_le _)
 simp only [Int.natCast_zero, List.drop_zero] at L
 rw [yaxi _ _ (by simp)]
 simp (maxSteps := 1000000) -implicitDefEqProofs only [↓reduceIte, ↓cond_true, ↓cond_false, sr1, sr2, kA, seval, d55, n55, e55, L]
theorem yalp (m : MMach) (A : Nat) (hA : m.address = (A : Int)) (a2 : A ≤ 40) (r v : Sv) (s : MState) (hs : StOk r v s) (hl : s.mem.length < 1000000) (hb : BOk s.mem) (t : Int) (t0 : 0 ≤ t) (t1 : t < 2 ^ 40) (n : Nat) (hn : n ≤ 8) : ∀ i, i ≤ n →
  lim (some [10]) 0 (blk 0 (om Tryz.prog ⟨22, none⟩ 0 (.loop (lpb Tryz.f22 0)) ⟨⟨42, [(2, .int .u64 t), (4, .ptr 0 0), (5, .ptr 1 0), (10, .int .u64 (hiS (zgw A t s.mem) i (n - i))), (11, .int .i64 ((i : Int) - 1))]⟩, [], msH m r v s⟩)) = some (.normal, ⟨⟨42, [(10, .int .u64 (hiS (zgw A t s.mem) 0 n))]⟩, [], ⟨0, []⟩⟩) := by
 intro i
 induction i with
 | zero =>
  intro _
  rw [zae]
  have e : decide ((0 : Int) ≤ -1) = false := by decide
  simp only [Int.natCast_zero, Int.zero_sub, Nat.sub_zero]
  simp (maxSteps := 1000000) -implicitDefEqProofs only [↓reduceIte, ↓cond_true, ↓cond_false, sr1, sr2, kA, seval, d22, yak4, n22, e22, e]
 | succ i ih =>
  intro hi
  have ih := ih (by omega)
  rw [zae]
  have e1 : ((i + 1 : Nat) : Int) - 1 = (i : Int) := by omega
  have e0 : decide ((0 : Int) ≤ (i : Int)) = true := decide_eq_true (by omega)
  have e2 : IntKind.i64.wrap ((i : Int) - 1) = (i : Int) - 1 := zjp (by omega) (by omega)
  have hG := zpe m A hA a2 t t0 t1 i (by omega)
  have hE := zm9 v s.mem hs.v hl ((t + (i : Int)) % (2 ^ A : Nat))
  have bl := znf hb (A := A) (t := t) i
  have wb : IntKind.u64.wrap (zeo s.mem ((t + (i : Int)) % (2 ^ A : Nat))) = zgw A t s.mem i := ze0 bl.1 (by have := bl.2; unfold zgw at this; omega)
  have q := yaf3 (znf (A := A) (t := t) hb) (n - (i + 1)) (i + 1)
  have q2 := yaf3 (znf (A := A) (t := t) hb) (n - i) i
  have en : n - i = (n - (i + 1)) + 1 := by omega
  have st : hiS (zgw A t s.mem) i (n - i) = 256 * hiS (zgw A t s.mem) (i + 1) (n - (i + 1)) + zgw A t s.mem i := by rw [en]; rfl
  have p8 : 2 ^ (8 * (n - i)) ≤ 2 ^ 64 := Nat.pow_le_pow_right (by decide) (by omega)
  have w1 : IntKind.u64.wrap (256 * hiS (zgw A t s.mem) (i + 1) (n - (i + 1))) = 256 * hiS (zgw A t s.mem) (i + 1) (n - (i + 1)) := ze0 (by omega) (by omega)
  have w2 : IntKind.u64.wrap (256 * hiS (zgw A t s.mem) (i + 1) (n - (i + 1)) + zgw A t s.mem i) = hiS (zgw A t s.mem) i (n - i) := by rw [← st]; exact ze0 (by omega) (by omega)
  simp only [zac, zad] at hG
  rw [e1]
  simp (maxSteps := 1000000) -implicitDefEqProofs only [↓reduceIte, ↓cond_true, ↓cond_false, sr1, sr2, kA, seval, d22, yak4, n22, e22, e0, e2, hG, hE, wb, w1, w2, ih]
theorem zj0 (m : MMach) (hm : NOk8 m) (r v : Sv) (s : MState) (hs : StOk r v s) (hn : StNum2 s) (t w : Int) (t0 : 0 ≤ t) : zaq Tryz.prog (om Tryz.prog) 22 [zac m, stV r v s, .int .u64 t, .int .i64 w] ⟨0, []⟩ = some (zmc m s t w, ⟨0, []⟩) := by
 have hA := zu6 m hm r v s hs hn.n t w
 simp only [zac, zad, stV] at hA
 unfold zmc
 rw [yaw0 _ _ (by simp)]
 cases ha : decide (accS m s t w = 0) with
 | false => simp (maxSteps := 1000000) -implicitDefEqProofs only [↓reduceIte, ↓cond_true, ↓cond_false, sr1, sr2, kA, seval, d22, yak4, n22, e22, zac, zad, stV, hA, ha]
 | true =>
  have Z := yan0 (of_decide_eq_true ha)
  obtain ⟨g1, g2⟩ := zpq Z.c
  obtain ⟨a, ea, a1, a2⟩ := zsz g1
  obtain ⟨n, en, n1, n2⟩ := zyi Z.w
  have t1 : t < 2 ^ 40 := by
   have := Z.t
   rw [ea, zeb a1 (by omega)] at this
   have p : 2 ^ a ≤ 2 ^ 40 := Nat.pow_le_pow_right (by decide) a2
   have q := Nat.two_pow_pos a
   omega
  have L := yalp m a ea a2 r v s hs hn.l hn.b t t0 t1 n n2 n (Nat.le_refl _)
  have e1 : m.address.toNat = a := by omega
  have e2 : (w / 8).toNat = n := by omega
  have h8 : (8 : Int) ≠ 0 := by decide
  have eq : IntKind.i64.wrap (w.tdiv 8) = (n : Int) := by
   rw [Int.tdiv_eq_ediv_of_nonneg (by omega), zjp (by omega) (by omega)]; omega
  have e3 : IntKind.i64.wrap ((n : Int) - 1) = (n : Int) - 1 := zjp (by omega) (by omega)
  rw [Nat.sub_self] at L
  simp only [hiS, msH, zad, stC] at L
  rw [e1, e2, yatq]
  simp (maxSteps := 1000000) -implicitDefEqProofs only [↓reduceIte, ↓cond_true, ↓cond_false, sr1, sr2, kA, seval, d22, yak4, n22, e22, zac, zad, stV, hA, ha, in_quo h8, eq, e3, L]
def tabM (T : List (Int × Int)) : Blk := .map (zk7 (AV.int .u64) (AV.int .u8) 0 T) T.length
theorem ya16 : Blk.map [] 0 = tabM [] := rfl
theorem zjm {T : List (Int × Int)} : (tabM T).refs = [] := zot (fun _ => rfl) (fun _ => rfl)
theorem zmx {T : List (Int × Int)} {ρ : Nat → Nat} : (tabM T).ren ρ = tabM T := zyb (fun _ => rfl) (fun _ => rfl)
theorem yau4 {T : List (Int × Int)} {n z : Int} : lkK .int (.int .u8 z) (.int .u64 n) false (entB (some (tabM T))) = some (.int .u8 ((zek n T).getD z)) := by
 unfold tabM; rw [entB_some, lk_some kf_int]; exact yagr (zt1 .u64)
theorem yau5 {T : List (Int × Int)} {n w : Int} {H : Heap} {b : Nat} : muO .int H b (.int .u64 n) (.int .u8 w) (some (tabM T)) = some (H.set b (tabM (zog n w T))) := by
 unfold tabM; rw [mu_some kf_int]; exact yagw (zt1 .u64) rfl
def tabC : List MCell → List (Int × Int) → List (Int × Int)
 | [], T => T
 | c :: l, T => tabC l (zog c.at_ c.byte T)
theorem yait {l : List MCell} {i : Nat} {T : List (Int × Int)} (h : i < l.length) : tabC (l.drop i) T = tabC (l.drop (i + 1)) (zog l[i].at_ l[i].byte T) := by
 rw [List.drop_eq_getElem_cons h]; rfl
theorem yab1 : ∀ {l : List MCell} {T : List (Int × Int)} {k : Int}, Asc (ats l) → (zek k (tabC l T)).getD 0 = if k ∈ ats l then zeo l k else (zek k T).getD 0
 | [], T, k, _ => by simp [tabC, ats]
 | c :: l, T, k, h => by
  have h' : Asc (c.at_ :: ats l) := h
  unfold Asc at h'
  rw [List.pairwise_cons] at h'
  rw [tabC, yab1 h'.2, zhc]
  have em : (k ∈ ats (c :: l)) ↔ k = c.at_ ∨ k ∈ ats l := by show k ∈ c.at_ :: ats l ↔ _; rw [List.mem_cons]
  by_cases e : k = c.at_
  ·have nm : ¬ k ∈ ats l := fun q => by have := h'.1 k q; omega
   rw [if_neg nm, if_pos (em.2 (.inl e)), decide_eq_true e]
   simp only [cond_true, Option.getD_some, zeo, decide_eq_true e.symm]
  ·by_cases q : k ∈ ats l
   ·rw [if_pos q, if_pos (em.2 (.inr q))]
    simp only [zeo, decide_eq_false (fun h : c.at_ = k => e h.symm), cond_false]
   ·rw [if_neg q, if_neg (fun r => (em.1 r).elim e q), decide_eq_false e]; rfl
theorem yais {l : List MCell} (h : Asc (ats l)) (k : Int) : (zek k (tabC l [])).getD 0 = zeo l k := by
 rw [yab1 h]
 by_cases q : k ∈ ats l
 ·rw [if_pos q]
 ·rw [if_neg q, zs9 fun c hc e => q (by rw [← e]; exact List.mem_map_of_mem hc)]; rfl
def bl (b : Nat → Int) (n : Nat) : List Int := (List.range n).map b
theorem yaez {b : Nat → Int} {n : Nat} : (bl b n).length = n := by simp [bl]
theorem yaq5 {b : Nat → Int} {n : Nat} : bl b (n + 1) = bl b n ++ [b n] := by simp [bl, List.range_succ]
theorem yawo {b : Nat → Int} {n : Nat} : (bl b n).map u8V ++ [.int .u8 (b n)] = (bl b (n + 1)).map u8V := by rw [yaq5, List.map_append]; rfl
def zrn (b : Nat → Int) (n i : Nat) : List Int := bl (fun j => if j < i then b j else 0) n
theorem yaac {b : Nat → Int} {n i : Nat} : (zrn b n i).length = n := yaez
theorem yakw {b : Nat → Int} {n : Nat} : zrn b n n = bl b n := by
 unfold zrn bl
 refine List.map_congr_left fun j hj => ?_
 rw [if_pos (List.mem_range.1 hj)]
theorem yakx {b : Nat → Int} {n i : Nat} (h : i < n) : ((zrn b n i).map u8V).set i (.int .u8 (b i)) = (zrn b n (i + 1)).map u8V := by
 refine List.ext_getElem (by simp [yaac]) fun j h1 h2 => ?_
 rw [List.getElem_set]
 simp only [List.getElem_map, zrn, bl, List.getElem_range]
 by_cases e : i = j
 ·subst e; simp [u8V]
 ·rw [if_neg e]
  by_cases q : j < i
  ·simp [q, show j < i + 1 by omega]
  ·simp [q, show ¬ j < i + 1 by omega]
def zer8 (n : Nat) : List AV := List.replicate n (.int .u8 0)
theorem zrg : ∀ n, zca [.int .u8 0] n = zer8 n
 | 0 => rfl
 | n + 1 => by rw [zca, zrg n]; rfl
theorem yay3 {b : Nat → Int} {n : Nat} : zer8 n = (zrn b n 0).map u8V := by
 unfold zer8 zrn bl
 rw [List.map_map]
 refine List.ext_getElem (by simp) fun j h1 h2 => ?_
 simp [u8V]
theorem zeu {l : List Int} : AV.refsL (l.map u8V) = [] := refsL_map fun _ => rfl
theorem zgu {l : List Int} {ρ : Nat → Nat} : AV.renL ρ (l.map u8V) = l.map u8V := renL_map fun _ => rfl
theorem zmb {l : List Int} : zby (l.map u8V) = true := leafs_map fun _ => rfl
noncomputable abbrev mtT (m : MMach) (T : List (Int × Int)) : Heap := ⟨2, [some (.cells 27 (zad m)), some (tabM T)]⟩
theorem yazb (m : MMach) (t n : Int) (v : Sv) (l : List MCell) (hv : SvOk v 2 l.length) (hl : l.length < 1000000) : ∀ i, i ≤ l.length → ∀ T, lim (some [2, 3, 4, 11]) 0 (blk 1 (om Tryz.prog ⟨23, none⟩ 0 (.loop (lpb Tryz.f23 0)) ⟨⟨76, [(2, .int .u64 t), (3, .int .i64 n), (4, .ptr 0 0), (11, .map (some 1)), (42, .rsl v.a v.c v.z (l.map za0)), (43, .int .i64 l.length), (44, .int .i64 i)]⟩, [], mtT m T⟩)) = some (.normal, ⟨⟨76, [(2, .int .u64 t), (3, .int .i64 n), (4, .ptr 0 0), (11, .map (some 1))]⟩, [], mtT m (tabC (l.drop i) T)⟩) := by
 refine zb8 (fun T => ?_) (fun i h ih T => ?_) <;> rw [zae]
 ·simp (maxSteps := 1000000) -implicitDefEqProofs only [↓reduceIte, ↓cond_true, ↓cond_false, sr1, sr2, kA, seval, d23, n23, zt5, e23, List.drop_length, tabC, zjm, zmx]
 ·have hx := zl7 (f := za0) (k := .i64) hv h
  rw [yait h]
  simp (maxSteps := 1000000) -implicitDefEqProofs only [↓reduceIte, ↓cond_true, ↓cond_false, sr1, sr2, kA, seval, d23, n23, zt5, e23, dlt_t h, wi_nat (show i < 2 ^ 62 by omega), hx, za0, zjm, zmx, yau5, ih]
noncomputable abbrev mtO (m : MMach) (T : List (Int × Int)) (l : List Int) : Heap := ⟨3, [some (.cells 27 (zad m)), some (tabM T), some (.cells 5 (l.map u8V))]⟩
theorem yazc (m : MMach) (A : Nat) (hA : m.address = (A : Int)) (a1 : 1 ≤ A) (a2 : A ≤ 40) (l : List MCell) (T : List (Int × Int)) (hT : ∀ k, (zek k T).getD 0 = zeo l k) (t : Int) (t0 : 0 ≤ t) (t1 : t < 2 ^ 40) (n : Nat) (hn : n ≤ 4096) : ∀ i, i ≤ n → lim (some [14]) 0 (blk 3 (om Tryz.prog ⟨23, none⟩ 0 (.loop (lpb Tryz.f23 1)) ⟨⟨76, [(2, .int .u64 t), (4, .ptr 0 0), (11, .map (some 1)), (14, .sl 2 0 n 1), (57, .int .i64 n), (58, .int .i64 i)]⟩, [], mtO m T (zrn (zgw A t l) n i)⟩)) = some (.normal, ⟨⟨76, [(14, .sl 0 0 n 1)]⟩, [], ⟨1, [some (.cells 5 ((zrn (zgw A t l) n n).map u8V))]⟩⟩) := by
 refine zb8 ?_ (fun i h ih => ?_) <;> rw [zae]
 ·simp (maxSteps := 1000000) -implicitDefEqProofs only [↓reduceIte, ↓cond_true, ↓cond_false, sr1, sr2, kA, seval, d23, n23, zt5, e23, zeu, zgu, zjm, zmx]
 ·have wu : IntKind.u64.wrap (i : Int) = (i : Int) := ze0 (by omega) (by omega)
  have wa : IntKind.u64.wrap (t + (i : Int)) = t + (i : Int) := ze0 (by omega) (by omega)
  have em : zcb m.address = ((2 ^ A - 1 : Nat) : Int) := by rw [hA]; exact zeb a1 (show A ≤ 64 by omega)
  have ea := zpf (x := t + (i : Int)) (by omega) (by omega) (show A ≤ 64 by omega)
  have eb : (zek ((t + (i : Int)) % (2 ^ A : Nat)) T).getD 0 = zgw A t l i := hT _
  have hle : i + 1 ≤ n := h
  simp (maxSteps := 1000000) -implicitDefEqProofs only [↓reduceIte, ↓cond_true, ↓cond_false, sr1, sr2, kA, seval, d23, n23, zt5, e23, dlt_t h, wi_nat (show i < 2 ^ 62 by omega), wu, wa, zac, zad, zhq, em, zm6, ea, yau4, eb, Go.Ab.ix_sl h, sr_cons, sr_nil, yakx h, yaac, hle, ih, zeu, zgu, zjm, zmx]
def getE (m : MMach) (s : MState) (t n : Int) : Int := bif decide (zpp m s = 0) then (bif decide (0 ≤ n) && (decide (n ≤ 4096) && decide (t ≤ zcb m.address)) then 0 else 2) else zpp m s
def zhl (m : MMach) (s : MState) (t n : Int) : List Int := bl (zgw m.address.toNat t s.mem) n.toNat
structure GetOk (m : MMach) (s : MState) (t n : Int) : Prop where
 c : zpp m s = 0
 n0 : 0 ≤ n
 n1 : n ≤ 4096
 t : t ≤ zcb m.address
theorem yaak {m : MMach} {s : MState} {t n : Int} (h : getE m s t n = 0) : GetOk m s t n := by
 unfold getE at h
 cases h1 : decide (zpp m s = 0) with
 | false =>
  rw [h1] at h
  simp only [cond_false] at h
  exact absurd h (of_decide_eq_false h1)
 | true =>
  rw [h1] at h
  cases h2 : (decide (0 ≤ n) && (decide (n ≤ 4096) && decide (t ≤ zcb m.address))) with
  | false => rw [h2] at h; simp at h
  | true =>
   simp only [Bool.and_eq_true, decide_eq_true_eq] at h2
   exact ⟨of_decide_eq_true h1, h2.1, h2.2.1, h2.2.2⟩
theorem ztz (m : MMach) (hm : MOk m) (r v : Sv) (s : MState) (hs : StOk r v s) (hn : StNum2 s) (t n : Int) (t0 : 0 ≤ t) : zaq Tryz.prog (om Tryz.prog) 23 [zac m, stV r v s, .int .u64 t, .int .i64 n] ⟨0, []⟩ = bif decide (getE m s t n = 0) then some (.tup [.sl 0 0 n.toNat 1, .int .i64 0], ⟨1, [some (.cells 5 ((zhl m s t n).map u8V))]⟩) else some (.tup [zbs, .int .i64 (getE m s t n)], ⟨0, []⟩) := by
 have hC := zfk m hm r v s hs
 simp only [zac, zad, stV] at hC
 have n0 : decide (n < 0) = !decide (0 ≤ n) := by rw [zbg, Bool.not_not]
 have n1 : decide (4096 < n) = !decide (n ≤ 4096) := by rw [zbg, Bool.not_not]
 unfold getE
 rw [yaw1 _ _ (by simp)]
 cases hc : decide (zpp m s = 0) with
 | false => simp (maxSteps := 1000000) -implicitDefEqProofs only [↓reduceIte, ↓cond_true, ↓cond_false, sr1, sr2, kA, seval, d23, n23, zt5, e23, zac, zad, stV, hC, hc, zbs]
 | true =>
 obtain ⟨g1, g2⟩ := zpq (of_decide_eq_true hc)
 have V := zm0 g2
 obtain ⟨a, ea, a1, a2⟩ := zsz g1
 have ho := zmj m.address t
 have eo : okB m.address t = decide (t ≤ zcb m.address) := by unfold okB; rw [zu7 g1, Bool.true_and]
 rw [eo] at ho
 cases c1 : decide (0 ≤ n) with
 | false => simp (maxSteps := 1000000) -implicitDefEqProofs only [↓reduceIte, ↓cond_true, ↓cond_false, sr1, sr2, kA, seval, d23, n23, zt5, e23, zac, zad, stV, hC, hc, n0, c1, zbs]
 | true =>
 cases c2 : decide (n ≤ 4096) with
 | false => simp (maxSteps := 1000000) -implicitDefEqProofs only [↓reduceIte, ↓cond_true, ↓cond_false, sr1, sr2, kA, seval, d23, n23, zt5, e23, zac, zad, stV, hC, hc, n0, c1, n1, c2, zbs]
 | true =>
 cases c3 : decide (t ≤ zcb m.address) with
 | false => simp (maxSteps := 1000000) -implicitDefEqProofs only [↓reduceIte, ↓cond_true, ↓cond_false, sr1, sr2, kA, seval, d23, n23, zt5, e23, zac, zad, stV, hC, hc, n0, c1, n1, c2, ho, c3, zbs]
 | true =>
  have c1' := of_decide_eq_true c1
  have c2' := of_decide_eq_true c2
  have c3' := of_decide_eq_true c3
  obtain ⟨k, rfl⟩ : ∃ k : Nat, n = (k : Int) := ⟨n.toNat, by omega⟩
  have t1 : t < 2 ^ 40 := by
   rw [ea, zeb a1 (by omega)] at c3'
   have p : 2 ^ a ≤ 2 ^ 40 := Nat.pow_le_pow_right (by decide) a2
   have q := Nat.two_pow_pos a
   omega
  have L0 := yazb m t (k : Int) v s.mem hs.v hn.l 0 (Nat.zero_le _) []
  have L1 := yazc m a ea a1 a2 s.mem (tabC s.mem []) (yais (zvm V.c)) t t0 t1 k (by omega) 0 (Nat.zero_le _)
  have mk := fun H => mks_eq (H := H) (e := 5) (n := 1) (w := 1) (z := [.int .u8 0]) (l := (k : Int)) (c := (k : Int)) (by simp [zby, zdr]; omega)
  rw [Int.toNat_natCast, zrg, yay3 (b := zgw a t s.mem)] at mk
  have e1 : m.address.toNat = a := by omega
  simp only [Int.natCast_zero, List.drop_zero, mtT, mtO, zad] at L0 L1
  unfold zhl
  rw [e1, Int.toNat_natCast, ← yakw]
  simp (maxSteps := 1000000) -implicitDefEqProofs only [↓reduceIte, ↓cond_true, ↓cond_false, sr1, sr2, kA, seval, d23, n23, zt5, e23, zac, zad, stV, hC, hc, n0, c1, n1, c2, ho, c3, ya16, zjm, zmx, L0, mk, zeu, zgu, L1]
def zd6 (s : MState) : Bool := decide ((80 : Int) < s.regs.length) || decide ((4200 : Int) < s.mem.length)
theorem zff (r v : Sv) (s : MState) : zaq Tryz.prog (om Tryz.prog) 11 [stV r v s] ⟨0, []⟩ = some (.bool (zd6 s), ⟨0, []⟩) := by
 unfold zd6
 rw [yaws _ _ (by simp)]
 cases h : decide ((80 : Int) < s.regs.length) with
 | true => simp (maxSteps := 1000000) -implicitDefEqProofs only [↓reduceIte, ↓cond_true, ↓cond_false, sr1, sr2, kA, seval, d11, n11, stV, h]
 | false => simp (maxSteps := 1000000) -implicitDefEqProofs only [↓reduceIte, ↓cond_true, ↓cond_false, sr1, sr2, kA, seval, d11, n11, stV, h]
theorem zi2 (m : MMach) (hR : RawM m) (r v : Sv) (s : MState) : zaq Tryz.prog (om Tryz.prog) 10 [zac m, stV r v s] ⟨0, []⟩ = some (.bool (zg1 m || zd6 s), ⟨0, []⟩) := by
 have h1 := yacv m hR
 have h2 := zff r v s
 simp only [zac, zad, stV] at h1 h2
 rw [yawr _ _ (by simp)]
 cases h : zg1 m with
 | true =>
  rw [h] at h1
  simp (maxSteps := 1000000) -implicitDefEqProofs only [↓reduceIte, ↓cond_true, ↓cond_false, sr1, sr2, kA, seval, d10, n10, zac, zad, stV, h1]
 | false =>
  rw [h] at h1
  simp (maxSteps := 1000000) -implicitDefEqProofs only [↓reduceIte, ↓cond_true, ↓cond_false, sr1, sr2, kA, seval, d10, n10, zac, zad, stV, h1, h2]
def zcj (l : List MCell) : List AV := (l.map za0).flatMap AV.cells
theorem ztb {l : List MCell} : List.flatMap AV.cells (l.map za0) = zcj l := rfl
theorem yayd : zcj [] = [] := rfl
theorem zcd {c : MCell} {l : List MCell} : zcj (c :: l) = .int .u64 c.at_ :: .int .u8 c.byte :: zcj l := rfl
theorem zaw : ∀ {l : List MCell}, (zcj l).length = l.length * 2
 | [] => rfl
 | c :: l => by rw [zcd, List.length_cons, List.length_cons, List.length_cons, zaw]; omega
theorem zaj : ∀ {l : List MCell}, AV.refsL (zcj l) = []
 | [] => rfl
 | c :: l => by rw [zcd, refsL_cons, refsL_cons, zaj]; rfl
theorem zam {ρ : Nat → Nat} : ∀ {l : List MCell}, AV.renL ρ (zcj l) = zcj l
 | [] => rfl
 | c :: l => by rw [zcd, renL_cons, renL_cons, zam]; rfl
theorem zap : ∀ {l : List MCell}, zby (zcj l) = true
 | [] => rfl
 | c :: l => by have := zap (l := l); simp [zby, zdr, zcd] at this ⊢; exact this
theorem zav : ∀ {l : List MCell}, zlq 2 l.length (zcj l) = l.map za0
 | [] => rfl
 | c :: l => by rw [List.length_cons, zlq, zcd]; simp only [List.drop_succ_cons, List.drop_zero]; rw [zav]; rfl
theorem zto {l : List Int} : List.flatMap AV.cells (l.map zcc) = l.map zcc := flat_map fun _ => rfl
theorem zan {l : List Int} : AV.refsL (l.map zcc) = [] := refsL_map fun _ => rfl
theorem zat {l : List Int} {ρ : Nat → Nat} : AV.renL ρ (l.map zcc) = l.map zcc := renL_map fun _ => rfl
theorem za5 {l : List Int} : zby (l.map zcc) = true := leafs_map fun _ => rfl
abbrev rgB (l : List Int) : Option Blk := some (.cells 30 (l.map zcc))
abbrev clB (l : List MCell) : Option Blk := some (.cells 57 (zcj l))
theorem yai5 (r v : Sv) (s : MState) (hs : StOk r v s) (hr : s.regs ≠ []) (hm : s.mem ≠ []) (h1 : s.regs.length < 1000000) (h2 : s.mem.length < 1000000) : zaq Tryz.prog (om Tryz.prog) 12 [stV r v s] ⟨0, []⟩ = some (.agg [.sl 0 0 s.regs.length 1, .sl 1 0 s.mem.length 2, .int .u64 s.pc, .int .i64 s.cycles], ⟨2, [rgB s.regs, clB s.mem]⟩) := by
 have z1 := hs.r.z (List.length_pos_iff.2 hr)
 have z2 := hs.v.z (List.length_pos_iff.2 hm)
 have k1 : s.regs.length ≠ 0 := by have := List.length_pos_iff.2 hr; omega
 have k2 : s.mem.length ≠ 0 := by have := List.length_pos_iff.2 hm; omega
 have f1 : zsd 8 0 s.regs.length = true := zdf (by omega) (by decide)
 have f2 : zsd 16 0 s.mem.length = true := zdf (by omega) (by decide)
 obtain ⟨a1, c1, w1⟩ := r
 obtain ⟨a2, c2, w2⟩ := v
 simp only at z1 z2
 subst z1 z2
 rw [zzx _ _ (by simp)]
 simp (maxSteps := 1000000) -implicitDefEqProofs only [↓reduceIte, ↓cond_true, ↓cond_false, sr1, sr2, kA, seval, d12, yaml, n12, stV, zto, za5, zan, zat, ztb, zaw, zaj, zam, zap, k1, k2, f1, f2]
theorem yai4 (r v : Sv) (s : MState) (hs : StOk r v s) (hr : s.regs ≠ []) (hm : s.mem = []) (h1 : s.regs.length < 1000000) : zaq Tryz.prog (om Tryz.prog) 12 [stV r v s] ⟨0, []⟩ = some (.agg [.sl 0 0 s.regs.length 1, zbs, .int .u64 s.pc, .int .i64 s.cycles], ⟨1, [rgB s.regs]⟩) := by
 have z1 := hs.r.z (List.length_pos_iff.2 hr)
 have k1 : s.regs.length ≠ 0 := by have := List.length_pos_iff.2 hr; omega
 have f1 : zsd 8 0 s.regs.length = true := zdf (by omega) (by decide)
 obtain ⟨a1, c1, w1⟩ := r
 simp only at z1
 subst z1
 rw [zzx _ _ (by simp)]
 simp (maxSteps := 1000000) -implicitDefEqProofs only [↓reduceIte, ↓cond_true, ↓cond_false, sr1, sr2, kA, seval, d12, yaml, n12, stV, hm, zbs, zto, za5, zan, zat, k1, f1]
theorem yai3 (r v : Sv) (s : MState) (hs : StOk r v s) (hr : s.regs = []) (hm : s.mem ≠ []) (h2 : s.mem.length < 1000000) : zaq Tryz.prog (om Tryz.prog) 12 [stV r v s] ⟨0, []⟩ = some (.agg [zbs, .sl 0 0 s.mem.length 2, .int .u64 s.pc, .int .i64 s.cycles], ⟨1, [clB s.mem]⟩) := by
 have z2 := hs.v.z (List.length_pos_iff.2 hm)
 have k2 : s.mem.length ≠ 0 := by have := List.length_pos_iff.2 hm; omega
 have f2 : zsd 16 0 s.mem.length = true := zdf (by omega) (by decide)
 obtain ⟨a2, c2, w2⟩ := v
 simp only at z2
 subst z2
 rw [zzx _ _ (by simp)]
 simp (maxSteps := 1000000) -implicitDefEqProofs only [↓reduceIte, ↓cond_true, ↓cond_false, sr1, sr2, kA, seval, d12, yaml, n12, stV, hr, zbs, ztb, zaw, zaj, zam, zap, k2, f2]
theorem yai2 (r v : Sv) (s : MState) (hs : StOk r v s) (hr : s.regs = []) (hm : s.mem = []) : zaq Tryz.prog (om Tryz.prog) 12 [stV r v s] ⟨0, []⟩ = some (.agg [zbs, zbs, .int .u64 s.pc, .int .i64 s.cycles], ⟨0, []⟩) := by
 rw [zzx _ _ (by simp)]
 simp (maxSteps := 1000000) -implicitDefEqProofs only [↓reduceIte, ↓cond_true, ↓cond_false, sr1, sr2, kA, seval, d12, yaml, n12, stV, hr, hm, zbs]
theorem zbk {p : Nat → Bool} {l : List Int} : AV.allL p (l.map zcc) = true := zs1 fun _ => rfl
theorem zs2 {p : Nat → Bool} {l : List Int} : AV.allL p (l.map u8V) = true := zs1 fun _ => rfl
theorem zax {p : Nat → Bool} : ∀ {l : List MCell}, AV.allL p (zcj l) = true
 | [] => rfl
 | c :: l => by rw [zcd, all_cons, all_cons, zax]; rfl
theorem yag2 {x : Option Addr} {c z : Nat} {l : List AV} : zeg Tryz.prog .eql 28 (.rsl x c z l) (.rsl none 0 0 []) = some (.bool x.isNone) := by kernel_rfl
theorem yaaz {x : Option Addr} {c z : Nat} {l : List AV} : zeg Tryz.prog .eql 29 (.rsl x c z l) (.rsl none 0 0 []) = some (.bool x.isNone) := by kernel_rfl
theorem zvp {c z : Nat} {l : List AV} : zaq Tryz.prog (om Tryz.prog) 60 [.rsl none c z l] ⟨0, []⟩ = some (zbs, ⟨0, []⟩) := by
 rw [yaoa _ _ (by simp)]
 simp (maxSteps := 1000000) -implicitDefEqProofs only [↓reduceIte, ↓cond_true, ↓cond_false, sr1, sr2, kA, seval, d60, n60, yag2, Option.isNone_none, zbs]
theorem zr9 {c z : Nat} {l : List AV} : zaq Tryz.prog (om Tryz.prog) 61 [.rsl none c z l] ⟨0, []⟩ = some (zbs, ⟨0, []⟩) := by
 rw [yaob _ _ (by simp)]
 simp (maxSteps := 1000000) -implicitDefEqProofs only [↓reduceIte, ↓cond_true, ↓cond_false, sr1, sr2, kA, seval, d61, n61, yaaz, Option.isNone_none, zbs]
theorem zvq (a : Addr) (c : Nat) (l : List Int) (h : l ≠ []) (hl : l.length < 1000000) : zaq Tryz.prog (om Tryz.prog) 60 [.rsl (some a) c 1 (l.map zcc)] ⟨0, []⟩ = some (.sl 0 0 l.length 1, ⟨1, [rgB l]⟩) := by
 have k1 : l.length ≠ 0 := by have := List.length_pos_iff.2 h; omega
 have f1 : zsd 8 0 l.length = true := zdf (by omega) (by decide)
 rw [yaoa _ _ (by simp)]
 simp (maxSteps := 1000000) -implicitDefEqProofs only [↓reduceIte, ↓cond_true, ↓cond_false, sr1, sr2, kA, seval, d60, n60, yag2, Option.isNone_some, zto, za5, zan, zat, k1, f1]
theorem zsa (a : Addr) (c : Nat) (l : List MCell) (h : l ≠ []) (hl : l.length < 1000000) : zaq Tryz.prog (om Tryz.prog) 61 [.rsl (some a) c 2 (l.map za0)] ⟨0, []⟩ = some (.sl 0 0 l.length 2, ⟨1, [clB l]⟩) := by
 have k1 : l.length ≠ 0 := by have := List.length_pos_iff.2 h; omega
 have f1 : zsd 16 0 l.length = true := zdf (by omega) (by decide)
 rw [yaob _ _ (by simp)]
 simp (maxSteps := 1000000) -implicitDefEqProofs only [↓reduceIte, ↓cond_true, ↓cond_false, sr1, sr2, kA, seval, d61, n61, yaaz, Option.isNone_some, ztb, zaw, zaj, zam, zap, k1, f1]
theorem yavd (a b : Addr) (c d : Nat) (s : MState) (hr : s.regs ≠ []) (hm : s.mem ≠ []) (h1 : s.regs.length < 1000000) (h2 : s.mem.length < 1000000) : zaq Tryz.prog (om Tryz.prog) 25 [stV ⟨some a, c, 1⟩ ⟨some b, d, 2⟩ s] ⟨0, []⟩ = some (.agg [.sl 0 0 s.regs.length 1, .sl 1 0 s.mem.length 2, .int .u64 s.pc, .int .i64 s.cycles], ⟨2, [rgB s.regs, clB s.mem]⟩) := by
 have q1 := zvq a c s.regs hr h1
 have q2 := zsa b d s.mem hm h2
 rw [zzy _ _ (by simp)]
 simp (maxSteps := 1000000) -implicitDefEqProofs only [↓reduceIte, ↓cond_true, ↓cond_false, sr1, sr2, kA, seval, d25, yamm, yak5, n25, zbk, zax, stV, q1, q2, zan, zat, zaj, zam]
theorem yavc (a : Addr) (c d z : Nat) (s : MState) (hr : s.regs ≠ []) (h1 : s.regs.length < 1000000) : zaq Tryz.prog (om Tryz.prog) 25 [stV ⟨some a, c, 1⟩ ⟨none, d, z⟩ s] ⟨0, []⟩ = some (.agg [.sl 0 0 s.regs.length 1, zbs, .int .u64 s.pc, .int .i64 s.cycles], ⟨1, [rgB s.regs]⟩) := by
 have q1 := zvq a c s.regs hr h1
 rw [zzy _ _ (by simp)]
 simp (maxSteps := 1000000) -implicitDefEqProofs only [↓reduceIte, ↓cond_true, ↓cond_false, sr1, sr2, kA, seval, d25, yamm, yak5, n25, zbk, stV, q1, zr9, zbs, zan, zat]
theorem yavb (b : Addr) (c d z : Nat) (s : MState) (hm : s.mem ≠ []) (h2 : s.mem.length < 1000000) : zaq Tryz.prog (om Tryz.prog) 25 [stV ⟨none, c, z⟩ ⟨some b, d, 2⟩ s] ⟨0, []⟩ = some (.agg [zbs, .sl 0 0 s.mem.length 2, .int .u64 s.pc, .int .i64 s.cycles], ⟨1, [clB s.mem]⟩) := by
 have q2 := zsa b d s.mem hm h2
 rw [zzy _ _ (by simp)]
 simp (maxSteps := 1000000) -implicitDefEqProofs only [↓reduceIte, ↓cond_true, ↓cond_false, sr1, sr2, kA, seval, d25, yamm, yak5, n25, zax, stV, zvp, q2, zbs, zaj, zam]
theorem yava (c d z y : Nat) (s : MState) : zaq Tryz.prog (om Tryz.prog) 25 [stV ⟨none, c, z⟩ ⟨none, d, y⟩ s] ⟨0, []⟩ = some (.agg [zbs, zbs, .int .u64 s.pc, .int .i64 s.cycles], ⟨0, []⟩) := by
 rw [zzy _ _ (by simp)]
 simp (maxSteps := 1000000) -implicitDefEqProofs only [↓reduceIte, ↓cond_true, ↓cond_false, sr1, sr2, kA, seval, d25, yamm, yak5, n25, stV, zvp, zr9, zbs]
abbrev msO (m : MMach) (r v : Sv) (s : MState) (l : List Int) : Heap := ⟨3, [some (.cells 27 (zad m)), some (.cells 32 (stC r v s)), some (.cells 5 (l.map u8V))]⟩
theorem yak7 (m : MMach) (A : Nat) (hA : m.address = (A : Int)) (a2 : A ≤ 40) (r v : Sv) (s : MState) (hs : StOk r v s) (hl : s.mem.length < 1000000) (t : Int) (t0 : 0 ≤ t) (t1 : t < 2 ^ 40) (n : Nat) (hn : n ≤ 4096) : ∀ i, i ≤ n → lim (some [10]) 0 (blk 0 (om Tryz.prog ⟨24, none⟩ 0 (.loop (lpb Tryz.f24 0)) ⟨⟨48, [(2, .int .u64 t), (3, .int .i64 n), (4, .ptr 0 0), (5, .ptr 1 0), (10, .sl 2 0 i 1), (11, .int .i64 i)]⟩, [], msO m r v s (bl (zgw A t s.mem) i)⟩)) = some (.normal, ⟨⟨48, [(10, .sl 0 0 n 1)]⟩, [], ⟨1, [some (.cells 5 ((bl (zgw A t s.mem) n).map u8V))]⟩⟩) := by
 refine zb8 ?_ (fun i h ih => ?_) <;> rw [zae]
 ·simp (maxSteps := 1000000) -implicitDefEqProofs only [↓reduceIte, ↓cond_true, ↓cond_false, sr1, sr2, kA, seval, d24, zro, n24, e24, zeu, zgu]
 ·have hG := zpe m A hA a2 t t0 t1 i (by omega)
  have hE := zm9 v s.mem hs.v hl ((t + (i : Int)) % (2 ^ A : Nat))
  have eb : zeo s.mem ((t + (i : Int)) % (2 ^ A : Nat)) = zgw A t s.mem i := rfl
  have f1 : zsd 1 i 1 = true := zdf (by omega) (by decide)
  simp only [zac, zad] at hG
  simp (maxSteps := 1000000) -implicitDefEqProofs only [↓reduceIte, ↓cond_true, ↓cond_false, sr1, sr2, kA, seval, d24, zro, n24, e24, dlt_t h, wi_nat (show i < 2 ^ 62 by omega), hG, hE, eb, f1, yawo, yaez, ih, zeu, zgu, zmb]
theorem yak6 (m : MMach) (A : Nat) (hA : m.address = (A : Int)) (a2 : A ≤ 40) (r v : Sv) (s : MState) (hs : StOk r v s) (hl : s.mem.length < 1000000) (t : Int) (t0 : 0 ≤ t) (t1 : t < 2 ^ 40) (n : Nat) (hn : n ≤ 4096) (h : 0 < n) : lim (some [10]) 0 (blk 0 (om Tryz.prog ⟨24, none⟩ 0 (.loop (lpb Tryz.f24 0)) ⟨⟨48, [(2, .int .u64 t), (3, .int .i64 n), (4, .ptr 0 0), (5, .ptr 1 0), (10, zbs), (11, .int .i64 0)]⟩, [], msH m r v s⟩)) = some (.normal, ⟨⟨48, [(10, .sl 0 0 n 1)]⟩, [], ⟨1, [some (.cells 5 ((bl (zgw A t s.mem) n).map u8V))]⟩⟩) := by
 have L := yak7 m A hA a2 r v s hs hl t t0 t1 n hn 1 h
 have hG := zpe m A hA a2 t t0 t1 0 (by omega)
 have hE := zm9 v s.mem hs.v hl ((t + ((0 : Nat) : Int)) % (2 ^ A : Nat))
 have eb : zeo s.mem ((t + ((0 : Nat) : Int)) % (2 ^ A : Nat)) = zgw A t s.mem 0 := rfl
 have e1 : (bl (zgw A t s.mem) 1).map u8V = [.int .u8 (zgw A t s.mem 0)] := rfl
 have f1 : zsd 1 0 1 = true := zdf (by omega) (by decide)
 have hd : decide ((0 : Int) < (n : Int)) = true := decide_eq_true (by omega)
 simp only [zac, zad] at hG
 simp only [msO, zad, stC, e1, Int.natCast_one] at L
 simp only [Int.natCast_zero] at hG hE eb
 rw [zae]
 simp (maxSteps := 1000000) -implicitDefEqProofs only [↓reduceIte, ↓cond_true, ↓cond_false, sr1, sr2, kA, seval, d24, zro, n24, e24, hd, zbs, zac, zad, hG, hE, eb, f1, L]
theorem yak8 (m : MMach) (r v : Sv) (s : MState) (t : Int) : lim (some [10]) 0 (blk 0 (om Tryz.prog ⟨24, none⟩ 0 (.loop (lpb Tryz.f24 0)) ⟨⟨48, [(2, .int .u64 t), (3, .int .i64 0), (4, .ptr 0 0), (5, .ptr 1 0), (10, zbs), (11, .int .i64 0)]⟩, [], msH m r v s⟩)) = some (.normal, ⟨⟨48, [(10, zbs)]⟩, [], ⟨0, []⟩⟩) := by
 rw [zae]
 simp (maxSteps := 1000000) -implicitDefEqProofs only [↓reduceIte, ↓cond_true, ↓cond_false, sr1, sr2, kA, seval, d24, zro, n24, e24, zbs]
theorem zl3 (m : MMach) (hm : NOk8 m) (r v : Sv) (s : MState) (hs : StOk r v s) (hn : StNum2 s) (t n : Int) (t0 : 0 ≤ t) : zaq Tryz.prog (om Tryz.prog) 24 [zac m, stV r v s, .int .u64 t, .int .i64 n] ⟨0, []⟩ = bif decide (getE m s t n = 0) then (bif decide (n = 0) then some (.tup [zbs, .int .i64 0], ⟨0, []⟩) else some (.tup [.sl 0 0 n.toNat 1, .int .i64 0], ⟨1, [some (.cells 5 ((zhl m s t n).map u8V))]⟩)) else some (.tup [zbs, .int .i64 (getE m s t n)], ⟨0, []⟩) := by
 have hC := zdm m hm r v s hs hn.n
 have ho := zj1 m.address
 have et : decide (zcb m.address < t) = !decide (t ≤ zcb m.address) := by rw [zbg, Bool.not_not]
 simp only [zac, zad, stV] at hC
 have n0 : decide (n < 0) = !decide (0 ≤ n) := by rw [zbg, Bool.not_not]
 have n1 : decide (4096 < n) = !decide (n ≤ 4096) := by rw [zbg, Bool.not_not]
 unfold getE
 rw [yaw2 _ _ (by simp)]
 cases hc : decide (zpp m s = 0) with
 | false => simp (maxSteps := 1000000) -implicitDefEqProofs only [↓reduceIte, ↓cond_true, ↓cond_false, sr1, sr2, kA, seval, d24, zro, n24, e24, zac, zad, stV, hC, hc, zbs]
 | true =>
 obtain ⟨g1, g2⟩ := zpq (of_decide_eq_true hc)
 have V := zm0 g2
 obtain ⟨a, ea, a1, a2⟩ := zsz g1
 cases c1 : decide (0 ≤ n) with
 | false => simp (maxSteps := 1000000) -implicitDefEqProofs only [↓reduceIte, ↓cond_true, ↓cond_false, sr1, sr2, kA, seval, d24, zro, n24, e24, zac, zad, stV, hC, hc, n0, c1, zbs]
 | true =>
 cases c2 : decide (n ≤ 4096) with
 | false => simp (maxSteps := 1000000) -implicitDefEqProofs only [↓reduceIte, ↓cond_true, ↓cond_false, sr1, sr2, kA, seval, d24, zro, n24, e24, zac, zad, stV, hC, hc, n0, c1, n1, c2, zbs]
 | true =>
 cases c3 : decide (t ≤ zcb m.address) with
 | false => simp (maxSteps := 1000000) -implicitDefEqProofs only [↓reduceIte, ↓cond_true, ↓cond_false, sr1, sr2, kA, seval, d24, zro, n24, e24, zac, zad, stV, hC, hc, n0, c1, n1, c2, ho, et, c3, zbs]
 | true =>
  have c1' := of_decide_eq_true c1
  have c2' := of_decide_eq_true c2
  have c3' := of_decide_eq_true c3
  obtain ⟨k, rfl⟩ : ∃ k : Nat, n = (k : Int) := ⟨n.toNat, by omega⟩
  have t1 : t < 2 ^ 40 := by
   rw [ea, zeb a1 (by omega)] at c3'
   have p : 2 ^ a ≤ 2 ^ 40 := Nat.pow_le_pow_right (by decide) a2
   have q := Nat.two_pow_pos a
   omega
  cases c4 : decide ((k : Int) = 0) with
  | true =>
   have c4' := of_decide_eq_true c4
   have L := yak8 m r v s t
   simp only [zbs, msH, zad, stC] at L
   rw [c4'] at n0 n1 c1 c2 ⊢
   simp (maxSteps := 1000000) -implicitDefEqProofs only [↓reduceIte, ↓cond_true, ↓cond_false, sr1, sr2, kA, seval, d24, zro, n24, e24, zac, zad, stV, hC, hc, n0, c1, n1, c2, ho, et, c3, zbs, L]
  | false =>
   have c4' := of_decide_eq_false c4
   have L := yak6 m a ea a2 r v s hs hn.l t t0 t1 k (by omega) (by omega)
   have e1 : m.address.toNat = a := by omega
   simp only [zbs, msH, zad, stC] at L
   unfold zhl
   rw [e1, Int.toNat_natCast]
   simp (maxSteps := 1000000) -implicitDefEqProofs only [↓reduceIte, ↓cond_true, ↓cond_false, sr1, sr2, kA, seval, d24, zro, n24, e24, zac, zad, stV, hC, hc, n0, c1, n1, c2, ho, et, c3, zbs, L, zeu, zgu]
end Go.Proofs.YtcfcphhamfhfcaaGreatDoor.v
