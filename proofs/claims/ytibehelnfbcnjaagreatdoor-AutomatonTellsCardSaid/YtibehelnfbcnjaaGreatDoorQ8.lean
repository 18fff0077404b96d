/- What the law's proof leans on, part 27. Conditions: in each statement. -/
import Derived.Test.YtibehelnfbcnjaaGreatDoorQ7
import Derived.Test.YtibehelnfbcnjaaGreatDoorQ3
set_option linter.all false
namespace Go.Proofs.YtibehelnfbcnjaaGreatDoor.v
open Go Go.Ab
set_option maxRecDepth 100000
set_option maxHeartbeats 4000000
set_option linter.unusedSimpArgs false
set_option linter.unusedVariables false
theorem yadu {R : List Int} {n : Nat} (hn : R.length = n) (h1 : 1 ≤ n) (hs : srt R) (hr : ∀ x ∈ R, 0 ≤ x ∧ x ≤ 15) : decide (R.getD (n - 1) 0 = 0) = decide (R.countP (fun x => decide (((0 : Nat) : Int) < x)) + 1 ≤ n) := by
 have hl : n - 1 < R.length := by omega
 have el : R.getD (n - 1) 0 = R[n - 1] := by simp [hl]
 have hm := List.getElem_mem hl
 rw [← el] at hm
 rw [Bool.eq_iff_iff, decide_eq_true_eq, decide_eq_true_eq]
 constructor
 ·intro h0
  have hle : R.countP (fun x => decide (((0 : Nat) : Int) < x)) ≤ R.length := List.countP_le_length
  rcases Nat.lt_or_ge (R.countP (fun x => decide (((0 : Nat) : Int) < x))) n with h | h
  ·omega
  ·have he : R.countP (fun x => decide (((0 : Nat) : Int) < x)) = R.length := by omega
   have := List.countP_eq_length.1 he _ hm
   simp only [decide_eq_true_eq] at this
   omega
 ·intro h
  have h0 := hr _ hm
  rcases Int.lt_or_eq_of_le h0.1 with hp | hp
  ·exfalso
   have : R.countP (fun x => decide (((0 : Nat) : Int) < x)) = R.length := List.countP_eq_length.2 fun x hx => by
    obtain ⟨i, hi, rfl⟩ := List.getElem_of_mem hx
    have := hs i (n - 1) (by omega) hl
    have ei : R.getD i 0 = R[i] := by simp [hi]
    rw [ei] at this
    simp only [decide_eq_true_eq]; omega
   omega
  ·exact hp.symm
theorem zpo {m : MMach} {u : Nat} (h : u < m.units.length) : zaj m u = m.units[u].count.toNat := by
 unfold zaj; rw [Int.toNat_natCast, List.getElem?_eq_getElem h]
theorem yadi {m : MMach} (hv : VM m) {U : List Int} {P : List (Int × Int)} {c : Int} (I : Inv m U P c) {x : Int} (hx : 0 ≤ x) (hx2 : x.toNat < m.instrs.length) {u : Nat} (hu : u < m.units.length) (eu : uAt m x = u) (hb : 1 ≤ bAt m x ∧ bAt m x ≤ 15) :
  (decide (((P.countP (zi0 m u c) : Nat) : Int) + 1 ≤ cntI m u) = decide (U.getD (u * 4 + (zaj m u - 1)) 0 = 0)) ∧ (U.getD (u * 4 + (zaj m u - 1)) 0 = 0 → Inv m (bub (u * 4) (zaj m u - 1) (U.set (u * 4 + (zaj m u - 1)) (bAt m x))) (P ++ [(c, x)]) c) := by
 have hc := hv.c _ (List.getElem_mem hu)
 have hu8 := hv.u
 have ec := zpo hu
 have ei : cntI m u = (zaj m u : Int) := by
  unfold cntI; rw [Int.toNat_natCast, List.getElem?_eq_getElem hu, ec]; show m.units[u].count = _; omega
 have c1 : 1 ≤ zaj m u ∧ zaj m u ≤ 4 := by omega
 have hn := I.cnt u hu
 have hs := I.srt u hu
 have hr := I.rng u hu
 have hlen : (zfj U (u * 4) (zaj m u)).length = zaj m u := yai5 (by rw [I.len]; omega)
 have hg : U.getD (u * 4 + (zaj m u - 1)) 0 = (zfj U (u * 4) (zaj m u)).getD (zaj m u - 1) 0 := (zki (by omega)).symm
 have hz := yadu hlen c1.1 hs hr
 rw [hg]
 refine ⟨?_, fun h0 => ?_⟩
 ·rw [hz, ei, hn 0, Int.natCast_zero, Int.add_zero]
  rw [Bool.eq_iff_iff, decide_eq_true_eq, decide_eq_true_eq]
  omega
 ·have hset : ((zfj U (u * 4) (zaj m u)).set (zaj m u - 1) (bAt m x)).length = zaj m u := by simp [hlen]
  have hrow : zfj (bub (u * 4) (zaj m u - 1) (U.set (u * 4 + (zaj m u - 1)) (bAt m x))) (u * 4) (zaj m u) = zxh (zaj m u - 1) ((zfj U (u * 4) (zaj m u)).set (zaj m u - 1) (bAt m x)) := by
   rw [yae7 (by omega), zrp]
  have hoth : ∀ w : Nat, w ≠ u → zaj m w ≤ 4 → zfj (bub (u * 4) (zaj m u - 1) (U.set (u * 4 + (zaj m u - 1)) (bAt m x))) (w * 4) (zaj m w) = zfj U (w * 4) (zaj m w) := fun w hw h4 => by
   rw [zkj (c := zaj m u) (by omega) (by omega), zk7 (by omega)]
  have h4 : ∀ w : Nat, w < m.units.length → zaj m w ≤ 4 := fun w hw => by
   have := hv.c _ (List.getElem_mem hw)
   rw [zpo hw]; omega
  refine ⟨by rw [zqo, List.length_set, I.len], fun w hw => ?_, fun w hw => ?_, fun w hw t => ?_⟩
  ·by_cases ew : w = u
   ·rw [ew, hrow]
    refine zxj (by rw [hset]; omega) (fun i j hij hj hi hjn => ?_) (fun j hj hj2 => by rw [hset] at hj2; omega)
    rw [hset] at hj
    rw [zd1 (by rw [hlen]; omega), zd1 (by rw [hlen]; omega), if_neg (by omega), if_neg (by omega)]
    exact hs i j hij (by rw [hlen]; omega)
   ·rw [hoth w ew (h4 w hw)]; exact I.srt w hw
  ·by_cases ew : w = u
   ·rw [ew, hrow]
    intro y hy
    have hq : (zxh (zaj m u - 1) ((zfj U (u * 4) (zaj m u)).set (zaj m u - 1) (bAt m x))).countP (fun y => decide (0 ≤ y ∧ y ≤ 15)) = (zxh (zaj m u - 1) ((zfj U (u * 4) (zaj m u)).set (zaj m u - 1) (bAt m x))).length := by
     rw [zqn (by rw [hset]; omega), zxi]
     refine List.countP_eq_length.2 fun z hz => ?_
     rcases List.mem_or_eq_of_mem_set hz with hz | rfl
     ·exact decide_eq_true (hr z hz)
     ·exact decide_eq_true (by omega)
    simpa using List.countP_eq_length.1 hq y hy
   ·rw [hoth w ew (h4 w hw)]; exact I.rng w hw
  ·rw [List.countP_append]
   by_cases ew : w = u
   ·rw [ew, hrow, zqn (by rw [hset]; omega)]
    have h1 := zvl (p := fun x => decide ((t : Int) < x)) (l := zfj U (u * 4) (zaj m u)) (i := zaj m u - 1) (a := bAt m x) (by rw [hlen]; omega)
    rw [h0] at h1
    have e0 : decide ((t : Int) < 0) = false := decide_eq_false (by omega)
    have e1 : zi0 m u (c + t) (c, x) = decide ((t : Int) < bAt m x) := by
     unfold zi0
     rw [eu, decide_eq_true rfl, Bool.true_and, Bool.eq_iff_iff, decide_eq_true_eq, decide_eq_true_eq]
     dsimp only; omega
    rw [e0] at h1
    have e2 : ([(c, x)] : List (Int × Int)).countP (zi0 m u (c + t)) = if decide ((t : Int) < bAt m x) = true then 1 else 0 := by rw [List.countP_cons, e1]; simp
    rw [e2, ← hn t]
    simpa using h1
   ·rw [hoth w ew (h4 w hw), I.cnt w hw t]
    have e1 : zi0 m w (c + t) (c, x) = false := by
     unfold zi0
     rw [eu, decide_eq_false (by omega), Bool.false_and]
    have e2 : ([(c, x)] : List (Int × Int)).countP (zi0 m w (c + t)) = 0 := by rw [List.countP_cons, e1]; simp
    rw [e2]; rfl
def yahj (m : MMach) : List (Int × Int) → List (Int × Int) → Bool
 | _, [] => true
 | P, e :: r => decide (((P.countP (zi0 m (uAt m e.2) e.1) : Nat) : Int) + 1 ≤ cntI m (uAt m e.2)) && yahj m (P ++ [e]) r
theorem yahx {m : MMach} (hv : VM m) : Inv m z32 [] 0 := by
 have hz : ∀ o c, ∀ x ∈ zfj z32 o c, x = 0 := fun o c x hx => by
  have := List.mem_of_mem_drop (List.mem_of_mem_take hx)
  exact List.eq_of_mem_replicate this
 refine ⟨rfl, fun u hu i j hij hj => ?_, fun u hu x hx => by rw [hz _ _ x hx]; omega, fun u hu t => ?_⟩
 ·have e : ∀ k, k < (zfj z32 (u * 4) (zaj m u)).length → (zfj z32 (u * 4) (zaj m u)).getD k 0 = 0 := fun k hk => by
   have : (zfj z32 (u * 4) (zaj m u)).getD k 0 = (zfj z32 (u * 4) (zaj m u))[k] := by simp [hk]
   rw [this]; exact hz _ _ _ (List.getElem_mem hk)
  rw [e i (by omega), e j hj]; exact Int.le_refl _
 ·rw [List.countP_nil]
  exact List.countP_eq_zero.2 fun x hx => by rw [hz _ _ x hx]; simp
theorem zqg {m : MMach} (hv : VM m) : ∀ {l U : List Int} {P : List (Int × Int)} {c : Int}, Inv m U P c → (∀ x ∈ l, -1 ≤ x ∧ x < (m.instrs.length : Int)) → accF m l U = yahj m P (evF l c)
 | [], U, P, c, _, _ => rfl
 | x :: l, U, P, c, I, hl => by
  have hx := hl x (by simp)
  have hl' : ∀ y ∈ l, -1 ≤ y ∧ y < (m.instrs.length : Int) := fun y hy => hl y (by simp [hy])
  rw [accF, evF]
  by_cases h : x = -1
  ·rw [decide_eq_true (show x < 0 by omega), decide_eq_true h]
   exact zqg hv (yahw I) hl'
  ·have h2 : x.toNat < m.instrs.length := by omega
   rw [decide_eq_false (show ¬ x < 0 by omega), decide_eq_false h, List.getElem?_eq_getElem h2]
   have hs := hv.s _ (List.getElem_mem h2)
   obtain ⟨u0, u1⟩ := hs.u
   have eu : uAt m x = (m.instrs[x.toNat].unit.toNat : Int) := by rw [yaf2 h2]; omega
   have eb : bAt m x = m.instrs[x.toNat].busy := yabw h2
   have hS := yadi hv I (by omega) h2 u1 eu (by rw [eb]; exact hs.b)
   have es : m.instrs[x.toNat].unit = (m.instrs[x.toNat].unit.toNat : Int) := by omega
   simp only [cond_false]
   rw [yahj, eu, hS.1]
   unfold zoj
   rw [← eb]
   have ec : zaj m m.instrs[x.toNat].unit = zaj m (m.instrs[x.toNat].unit.toNat : Int) := by rw [← es]
   rw [ec]
   cases hd : decide (U.getD (m.instrs[x.toNat].unit.toNat * 4 + (zaj m (m.instrs[x.toNat].unit.toNat : Int) - 1)) 0 = 0) with
   | false => rfl
   | true =>
    simp only [cond_true, Bool.true_and]
    exact zqg hv (hS.2 (of_decide_eq_true hd)) hl'
theorem zsr {α : Type} {E : List α} {p : Nat → Bool} {q : α → Bool} : ∀ {n : Nat}, n ≤ E.length → (∀ j (h : j < E.length), j < n → p j = q E[j]) → zuy p 0 n = (E.take n).countP q
 | 0, _, _ => by simp [zuy]
 | n + 1, hn, h => by
  have ih := zsr (p := p) (q := q) (n := n) (by omega) (fun j hj hjn => h j hj (by omega))
  have e : zuy p 0 (n + 1) = zuy p 0 n + (if p n = true then 1 else 0) := by
   unfold zuy
   rw [Nat.sub_zero, Nat.sub_zero, List.range'_concat, List.countP_append, List.countP_cons]
   simp
  rw [e, ih, List.take_succ_eq_append_getElem (by omega), List.countP_append, List.countP_cons, h n (by omega) (by omega)]
  simp
theorem yapm {m : MMach} {P : List (Int × Int)} {e : Int × Int} {R : List (Int × Int)} (hb : 1 ≤ bAt m e.2) :
  (!zt8 m ((P ++ e :: R).map (·.1)) ((P ++ e :: R).map (·.2)) P.length) = decide (((P.countP (zi0 m (uAt m e.2) e.1) : Nat) : Int) + 1 ≤ cntI m (uAt m e.2)) := by
 have ha : ∀ j (h : j < (P ++ e :: R).length), ((P ++ e :: R).map (·.1)).getD j 0 = (P ++ e :: R)[j].1 ∧ ((P ++ e :: R).map (·.2)).getD j 0 = (P ++ e :: R)[j].2 := fun j h => by
  constructor <;> simp only [List.getD_eq_getElem?_getD, List.getElem?_map, List.getElem?_eq_getElem h] <;> rfl
 have hk : P.length < (P ++ e :: R).length := by simp
 have ek : (P ++ e :: R)[P.length] = e := by simp
 obtain ⟨a1, a2⟩ := ha _ hk
 rw [ek] at a1 a2
 unfold zt8
 rw [a2, zsr (E := P ++ e :: R) (q := zi0 m (uAt m e.2) e.1) (by omega) (fun j h hj => by
  obtain ⟨b1, b2⟩ := ha j h
  unfold hitB zi0
  rw [a1, a2, b1, b2])]
 have et : (P ++ e :: R).take (P.length + 1) = P ++ [e] := by
  rw [List.take_succ_eq_append_getElem hk]; simp
 have e1 : zi0 m (uAt m e.2) e.1 e = true := by
  unfold zi0; simp; omega
 have ec : ([e] : List (Int × Int)).countP (zi0 m (uAt m e.2) e.1) = 1 := by rw [List.countP_cons, e1]; rfl
 rw [et, List.countP_append, ec, Bool.eq_iff_iff]
 simp only [Bool.not_eq_true', decide_eq_false_iff_not, decide_eq_true_eq]
 omega
theorem zst {m : MMach} (hv : VM m) : ∀ {R P : List (Int × Int)}, (∀ p ∈ R, 0 ≤ p.2 ∧ p.2.toNat < m.instrs.length) → zb0 (fun k => !zt8 m ((P ++ R).map (·.1)) ((P ++ R).map (·.2)) k) P.length (P ++ R).length = yahj m P R
 | [], P, _ => by rw [List.append_nil, za4]; rfl
 | e :: R, P, h => by
  have he := h e (by simp)
  have hs := hv.s _ (List.getElem_mem he.2)
  have hb : 1 ≤ bAt m e.2 := by rw [yabw he.2]; exact hs.b.1
  have ih := zst hv (R := R) (P := P ++ [e]) (fun p hp => h p (by simp [hp]))
  have e1 : P ++ [e] ++ R = P ++ e :: R := by simp
  have e2 : (P ++ [e]).length = P.length + 1 := by simp
  rw [e1, e2] at ih
  rw [zbq (by simp), yapm hb, ih]; rfl
theorem yagp {m : MMach} (hv : VM m) {l : List Int} (hl : l.length < 100000) (h : ∀ x ∈ l, -1 ≤ x ∧ x < (m.instrs.length : Int)) : accF m l z32 = !zzl m l := by
 rw [zqg hv (yahx hv) h]
 unfold zzl
 rw [Bool.not_not]
 exact (zst hv (P := []) (fun p hp => by have := (zxu (c := 0) h (Int.le_refl _) (by omega) p hp).2; omega)).symm
theorem yail (x : Int) : zas Tryz.prog (om Tryz.prog) 95 [.int .i64 x] ⟨0, []⟩ = some (.bool false, ⟨0, []⟩) := by
 have e : decide (x = x) = true := decide_eq_true rfl
 rw [yasn _ _ (by simp)]
 simp (maxSteps := 1000000) -implicitDefEqProofs only [↓reduceIte, ↓cond_true, ↓cond_false, sr1, sr2, kA, seval, d95, n95, e]
theorem ztp (x y : Int) : zas Tryz.prog (om Tryz.prog) 71 [.int .i64 x, .int .i64 y] ⟨0, []⟩ = some (.bool (decide (x < y)), ⟨0, []⟩) := by
 rw [yasb _ _ (by simp)]
 simp (maxSteps := 1000000) -implicitDefEqProofs only [↓reduceIte, ↓cond_true, ↓cond_false, sr1, sr2, kA, seval, d71, n71, yail]
def zdb (l : List Int) : Nat → Bool
 | 0 => true
 | i + 1 => bif decide (l.getD (i + 1) 0 < l.getD i 0) then false else zdb l i
theorem yajg (a : Option Addr) (c : Nat) (l : List Int) (ha : okS a (l.map zat) = true) (hl : l.length < 2 ^ 62) : ∀ i, i < l.length → lim (some []) 0 (blk 0 (om Tryz.prog ⟨40, none⟩ 0 (.loop (lpb Tryz.f40 0)) ⟨⟨21, [(0, .rsl a c 1 (l.map zat)), (3, .int .i64 (i : Nat))]⟩, [], ⟨0, []⟩⟩)) = bif zdb l i then some (.normal, ⟨⟨21, []⟩, [], ⟨0, []⟩⟩) else some (.ret, ⟨⟨21, [(2, .bool false)]⟩, [], ⟨0, []⟩⟩) := by
 intro i
 induction i with
 | zero =>
  intro _
  rw [zac]
  simp (maxSteps := 1000000) -implicitDefEqProofs only [↓reduceIte, ↓cond_true, ↓cond_false, sr1, sr2, kA, seval, d40, zvv, n40, e40, zdb]
 | succ i ih =>
  intro h
  have hi : i < l.length := by omega
  have w1 : IntKind.i64.wrap (((i + 1 : Nat) : Int) - 1) = (i : Int) := by rw [zdr (by omega) (by omega)]; omega
  have d1 : decide (0 < ((i + 1 : Nat) : Int)) = true := decide_eq_true (by omega)
  have e1 : l[i + 1] = l.getD (i + 1) 0 := (za2 h).symm
  have e2 : l[i] = l.getD i 0 := (za2 hi).symm
  have L := ih hi
  rw [zdb, zac]
  cases hd : decide (l.getD (i + 1) 0 < l.getD i 0) with
  | true => simp (maxSteps := 1000000) -implicitDefEqProofs only [↓reduceIte, ↓cond_true, ↓cond_false, sr1, sr2, kA, seval, d40, zvv, n40, e40, d1, w1, ix_sl ha h, ix_sl ha hi, zat, e1, e2, ztp, hd]
  | false => simp (maxSteps := 1000000) -implicitDefEqProofs only [↓reduceIte, ↓cond_true, ↓cond_false, sr1, sr2, kA, seval, d40, zvv, n40, e40, d1, w1, ix_sl ha h, ix_sl ha hi, zat, e1, e2, ztp, hd, L]
def zfh (l : List Int) : Bool := zdb l (l.length - 1)
theorem yaar (a : Option Addr) (c : Nat) (l : List Int) (ha : okS a (l.map zat) = true) (hl : l.length < 2 ^ 62) : zas Tryz.prog (om Tryz.prog) 40 [.rsl a c 1 (l.map zat)] ⟨0, []⟩ = some (.bool (zfh l), ⟨0, []⟩) := by
 unfold zfh
 cases h : l with
 | nil =>
  have kz : lim (some []) 0 (blk 0 (om Tryz.prog ⟨40, none⟩ 0 (.loop (lpb Tryz.f40 0)) ⟨⟨21, [(0, .rsl a c 1 []), (3, .int .i64 (-1))]⟩, [], ⟨0, []⟩⟩)) = some (.normal, ⟨⟨21, []⟩, [], ⟨0, []⟩⟩) := by
   rw [zac]
   simp (maxSteps := 1000000) -implicitDefEqProofs only [↓reduceIte, ↓cond_true, ↓cond_false, sr1, sr2, kA, seval, d40, zvv, n40, e40, List.map_nil]
  have w1 : IntKind.i64.wrap (-1) = -1 := by decide
  rw [yaj4 _ _ (by simp)]
  simp (maxSteps := 1000000) -implicitDefEqProofs only [↓reduceIte, ↓cond_true, ↓cond_false, sr1, sr2, kA, seval, d40, zvv, n40, e40, List.map_nil, List.length_nil, w1, kz, zdb, Nat.zero_sub]
 | cons x xs =>
  rw [← h]
  have hp : 0 < l.length := by rw [h]; simp
  have K := yajg a c l ha hl (l.length - 1) (by omega)
  have w1 : IntKind.i64.wrap ((l.length : Int) - 1) = ((l.length - 1 : Nat) : Int) := by rw [zdr (by omega) (by omega)]; omega
  rw [yaj4 _ _ (by simp)]
  cases hS : zdb l (l.length - 1) with
  | true =>
   rw [hS] at K
   simp (maxSteps := 1000000) -implicitDefEqProofs only [↓reduceIte, ↓cond_true, ↓cond_false, sr1, sr2, kA, seval, d40, zvv, n40, e40, w1, K]
  | false =>
   rw [hS] at K
   simp (maxSteps := 1000000) -implicitDefEqProofs only [↓reduceIte, ↓cond_true, ↓cond_false, sr1, sr2, kA, seval, d40, zvv, n40, e40, w1, K]
theorem yatw (m : MMach) (hm : MOk m) (h0 : zb3 m = 0) (a a2 : Option Addr) (c c2 : Nat) (l : List MOp) (S : List Int) (ha : okS a (l.map opV) = true) (hl : l.length < 2 ^ 62) : ∀ i, i ≤ l.length → lim (some [1, 2]) 0 (blk 1 (om Tryz.prog ⟨18, none⟩ 0 (.loop (lpb Tryz.f18 0)) ⟨⟨85, [(1, .rsl a c 2 (l.map opV)), (2, .rsl a2 c2 1 (S.map zat)), (3, .ptr 0 0), (25, .rsl a c 2 (l.map opV)), (26, .int .i64 l.length), (27, .int .i64 i)]⟩, [], zb2 m⟩)) =
  bif decide (zt6 m (l.drop i) = 0) then some (.normal, ⟨⟨85, [(1, .rsl a c 2 (l.map opV)), (2, .rsl a2 c2 1 (S.map zat))]⟩, [], ⟨0, []⟩⟩) else some (.ret, ⟨⟨85, [(6, .rsl none 0 0 []), (7, .int .i64 (zt6 m (l.drop i)))]⟩, [], ⟨0, []⟩⟩) := by
 refine zbl ?_ (fun i h ih => ?_) <;> rw [zac]
 ·simp (maxSteps := 1000000) -implicitDefEqProofs only [↓reduceIte, ↓cond_true, ↓cond_false, sr1, sr2, kA, seval, d18, n18, zd5, zd6, e18, zb2, List.drop_length, zt6]
 ·have hS := zvh m hm l[i]
  rw [decide_eq_true h0, cond_true] at hS
  simp only [zag, zae, opV] at hS
  rw [zt7 h]
  cases h0 : decide (zpf m l[i] = 0) with
  | true => simp (maxSteps := 1000000) -implicitDefEqProofs only [↓reduceIte, ↓cond_true, ↓cond_false, sr1, sr2, kA, seval, d18, n18, zd5, zd6, e18, zb2, zae, dlt_t h, wi_nat (show i < 2 ^ 62 by omega), ix_sl ha h, opV, hS, of_decide_eq_true h0, ih]
  | false => simp (maxSteps := 1000000) -implicitDefEqProofs only [↓reduceIte, ↓cond_true, ↓cond_false, sr1, sr2, kA, seval, d18, n18, zd5, zd6, e18, zb2, zae, dlt_t h, wi_nat (show i < 2 ^ 62 by omega), ix_sl ha h, opV, hS, h0]
abbrev zyb (o : MOp) : Option Blk := some (.cells 64 (opC o))
theorem yalb (S : List Int) (a a2 : Option Addr) (c c2 : Nat) (l : List MOp) (o : MOp) (i : Nat) (ha : okS a2 (S.map zat) = true) (hi : i < S.length) (hs : S[i] ≤ 100000) (n : Nat) : ∀ (d : Nat) (L : List Int) (t : Int), 0 ≤ t → t + d = S[i] → L.length + d < 10000000 →
  lim (some [2, 11, 12, 14, 48, 49, 50]) 0 (blk 5 (om Tryz.prog ⟨18, none⟩ 0 (.loop (lpb Tryz.f18 2)) ⟨⟨85, [(2, .rsl a2 c2 1 (S.map zat)), (11, .sl 0 0 L.length 1), (12, .int .i64 t), (13, .int .i64 i), (14, .ptr 1 0), (48, .rsl a c 2 (l.map opV)), (49, .int .i64 n), (50, .int .i64 i)]⟩, [], ⟨2, [itB L, zyb o]⟩⟩)) =
  some (.normal, ⟨⟨85, [(2, .rsl a2 c2 1 (S.map zat)), (11, .sl 0 0 (L.length + d) 1), (12, .int .i64 S[i]), (14, .ptr 1 0), (48, .rsl a c 2 (l.map opV)), (49, .int .i64 n), (50, .int .i64 i)]⟩, [], ⟨2, [itB (L ++ List.replicate d (-1)), zyb o]⟩⟩) := by
 intro d
 induction d with
 | zero =>
  intro L t h0 h1 h2
  have d0 : decide (t < S[i]) = false := decide_eq_false (by omega)
  have et : t = S[i] := by omega
  rw [zac]
  simp (maxSteps := 1000000) -implicitDefEqProofs only [↓reduceIte, ↓cond_true, ↓cond_false, sr1, sr2, kA, seval, d18, n18, zd5, zd6, e18, itB, zyb, ix_sl ha hi, zat, et, Int.lt_irrefl, List.replicate_zero, zaw, za1]
 | succ d ih =>
  intro L t h0 h1 h2
  have d0 : decide (t < S[i]) = true := decide_eq_true (by omega)
  have w1 : IntKind.i64.wrap (t + 1) = t + 1 := zdr (by omega) (by omega)
  have f1 : zos 8 L.length 1 = true := zco (by omega) (by decide)
  have K := ih (L ++ [-1]) (t + 1) (by omega) (by omega) (by simp; omega)
  have e3 : (L ++ [-1]).length = L.length + 1 := by simp
  have e4 : L.length + 1 + d = L.length + (d + 1) := by omega
  simp only [e3, e4, List.append_assoc, List.singleton_append, List.map_append, List.map_cons, List.map_nil, zat, itB, zyb] at K
  rw [zac]
  simp (maxSteps := 1000000) -implicitDefEqProofs only [↓reduceIte, ↓cond_true, ↓cond_false, sr1, sr2, kA, seval, d18, n18, zd5, zd6, e18, itB, zyb, ix_sl ha hi, zat, d0, w1, f1, List.replicate_succ, zaw, za1, zd4, List.length_map, List.map_append, List.map_cons, List.map_nil, K]
theorem yaoo (S : List Int) (a a2 : Option Addr) (c c2 : Nat) (l : List MOp) (o : MOp) (i : Nat) (ha : okS a2 (S.map zat) = true) (hi : i < S.length) (hs : S[i] ≤ 100000) (n : Nat) (t : Int) (h0 : 0 ≤ t) (d : Nat) (h1 : t + d = S[i]) :
  lim (some [2, 11, 12, 14, 48, 49, 50]) 0 (blk 5 (om Tryz.prog ⟨18, none⟩ 0 (.loop (lpb Tryz.f18 2)) ⟨⟨85, [(2, .rsl a2 c2 1 (S.map zat)), (11, .rsl none 0 0 []), (12, .int .i64 t), (13, .int .i64 i), (14, .ptr 0 0), (48, .rsl a c 2 (l.map opV)), (49, .int .i64 n), (50, .int .i64 i)]⟩, [], ⟨1, [zyb o]⟩⟩)) =
  bif decide (d = 0) then some (.normal, ⟨⟨85, [(2, .rsl a2 c2 1 (S.map zat)), (11, .rsl none 0 0 []), (12, .int .i64 S[i]), (14, .ptr 0 0), (48, .rsl a c 2 (l.map opV)), (49, .int .i64 n), (50, .int .i64 i)]⟩, [], ⟨1, [zyb o]⟩⟩) else
  some (.normal, ⟨⟨85, [(2, .rsl a2 c2 1 (S.map zat)), (11, .sl 0 0 d 1), (12, .int .i64 S[i]), (14, .ptr 1 0), (48, .rsl a c 2 (l.map opV)), (49, .int .i64 n), (50, .int .i64 i)]⟩, [], ⟨2, [itB (List.replicate d (-1)), zyb o]⟩⟩) := by
 cases d with
 | zero =>
  have et : t = S[i] := by omega
  rw [zac]
  simp (maxSteps := 1000000) -implicitDefEqProofs only [↓reduceIte, ↓cond_true, ↓cond_false, sr1, sr2, kA, seval, d18, n18, zd5, zd6, e18, zyb, ix_sl ha hi, zat, et, Int.lt_irrefl]
 | succ d =>
  have d0 : decide (t < S[i]) = true := decide_eq_true (by omega)
  have w1 : IntKind.i64.wrap (t + 1) = t + 1 := zdr (by omega) (by omega)
  have f1 : zos 8 0 1 = true := zco (by omega) (by decide)
  have K := yalb S a a2 c c2 l o i ha hi hs n d [-1] (t + 1) (by omega) (by omega) (by simp; omega)
  have e4 : 1 + d = d + 1 := by omega
  have dn : decide (d + 1 = 0) = false := decide_eq_false (by omega)
  simp only [List.length_cons, List.length_nil, Nat.zero_add, e4, List.singleton_append, List.map_cons, List.map_nil, zat, itB, zyb] at K
  rw [zac]
  simp (maxSteps := 1000000) -implicitDefEqProofs only [↓reduceIte, ↓cond_true, ↓cond_false, sr1, sr2, kA, seval, d18, n18, zd5, zd6, e18, itB, zyb, ix_sl ha hi, zat, d0, w1, f1, dn, List.replicate_succ, List.map_cons, List.map_nil, K]
def okT (s : Int) : Bool := decide (0 ≤ s) && decide (s ≤ 4000)
def zpw : List MOp → List Int → Int → List Int
 | o :: l, s :: ss, t => List.replicate (s - t).toNat (-1) ++ o.instr :: zpw l ss s
 | _, _, _ => []
theorem zj1 {l : List MOp} {S : List Int} {i : Nat} {t : Int} (h : i < l.length) (h2 : i < S.length) : zpw (l.drop i) (S.drop i) t = List.replicate (S[i] - t).toNat (-1) ++ l[i].instr :: zpw (l.drop (i + 1)) (S.drop (i + 1)) S[i] := by
 rw [List.drop_eq_getElem_cons h, List.drop_eq_getElem_cons h2]; rfl
theorem zwc {s : Int} : (!okT s) = (decide (s < 0) || decide (4000 < s)) := by
 unfold okT
 rw [Bool.eq_iff_iff]
 simp only [Bool.not_eq_true', Bool.and_eq_false_iff, decide_eq_false_iff_not, Bool.or_eq_true, decide_eq_true_eq]
 omega
theorem yatx (S : List Int) (a a2 : Option Addr) (c c2 : Nat) (l : List MOp) (ha : okS a (l.map opV) = true) (ha2 : okS a2 (S.map zat) = true) (hS : S.length = l.length) (hl : l.length ≤ 64) (hso : ∀ i (h : i + 1 < S.length), S[i] ≤ S[i + 1]) : ∀ i, i ≤ l.length → ∀ (L : List Int) (t : Int), 0 ≤ t → (∀ h : i < S.length, okT S[i] = true → t ≤ S[i]) → L.length + 4002 * (l.length - i) < 1000000 →
  lim (some [11]) 0 (blk 3 (om Tryz.prog ⟨18, none⟩ 0 (.loop (lpb Tryz.f18 1)) ⟨⟨85, [(2, .rsl a2 c2 1 (S.map zat)), (11, .sl 0 0 L.length 1), (12, .int .i64 t), (48, .rsl a c 2 (l.map opV)), (49, .int .i64 l.length), (50, .int .i64 i)]⟩, [], ⟨1, [itB L]⟩⟩)) =
  bif (S.drop i).all okT then some (.normal, ⟨⟨85, [(11, .sl 0 0 (L.length + (zpw (l.drop i) (S.drop i) t).length) 1)]⟩, [], ⟨1, [itB (L ++ zpw (l.drop i) (S.drop i) t)]⟩⟩) else some (.ret, ⟨⟨85, [(6, .rsl none 0 0 []), (7, .int .i64 2)]⟩, [], ⟨0, []⟩⟩) := by
 refine zbl (fun L t h0 ht hb => ?_) (fun i h ih L t h0 ht hb => ?_) <;> rw [zac]
 ·have eS : S.drop l.length = [] := by rw [← hS, List.drop_length]
  simp (maxSteps := 1000000) -implicitDefEqProofs only [↓reduceIte, ↓cond_true, ↓cond_false, sr1, sr2, kA, seval, d18, n18, zd5, zd6, e18, itB, List.drop_length, eS, zpw, List.all_nil, zaw, za1]
 ·have h2 : i < S.length := by omega
  rw [zjl h2, zj1 h h2]
  have hbad := zwc (s := S[i])
  cases hk : okT S[i] with
  | false =>
   rw [hk] at hbad
   cases hn : decide (S[i] < 0) with
   | true => simp (maxSteps := 1000000) -implicitDefEqProofs only [↓reduceIte, ↓cond_true, ↓cond_false, sr1, sr2, kA, seval, d18, n18, zd5, zd6, e18, itB, dlt_t h, ix_sl ha h, ix_sl ha2 h2, opV, zat, hn, zaw, za1]
   | false =>
    rw [hn] at hbad
    have hm : decide (4000 < S[i]) = true := by simpa using hbad.symm
    simp (maxSteps := 1000000) -implicitDefEqProofs only [↓reduceIte, ↓cond_true, ↓cond_false, sr1, sr2, kA, seval, d18, n18, zd5, zd6, e18, itB, dlt_t h, ix_sl ha h, ix_sl ha2 h2, opV, zat, hn, hm, zaw, za1]
  | true =>
   rw [hk] at hbad
   have hok := hk
   simp only [okT, Bool.and_eq_true, decide_eq_true_eq] at hok
   have hn : decide (S[i] < 0) = false := decide_eq_false (by omega)
   have hm : decide (4000 < S[i]) = false := decide_eq_false (by omega)
   have hts := ht h2 hk
   have K2 := yalb S a a2 c c2 l l[i] i ha2 h2 (by omega) l.length (S[i] - t).toNat L t h0 (by omega) (by omega)
   have f1 : zos 8 (L.length + (S[i] - t).toNat) 1 = true := zco (by omega) (by decide)
   have K1 := ih (L ++ List.replicate (S[i] - t).toNat (-1) ++ [l[i].instr]) S[i] hok.1 (fun h3 _ => hso i h3) (by simp; omega)
   have e3 : (L ++ List.replicate (S[i] - t).toNat (-1) ++ [l[i].instr]).length = L.length + (S[i] - t).toNat + 1 := by simp; omega
   have e4 : ∀ n, L.length + (S[i] - t).toNat + 1 + n = L.length + ((S[i] - t).toNat + (n + 1)) := fun n => by omega
   simp only [e3, e4] at K1
   simp only [List.append_assoc, List.singleton_append, List.cons_append, List.nil_append, List.map_append, List.map_cons, List.map_nil, zat, itB] at K1
   simp only [itB, zyb, List.map_append, zat] at K2
   simp (maxSteps := 1000000) -implicitDefEqProofs only [↓reduceIte, ↓cond_true, ↓cond_false, sr1, sr2, kA, seval, d18, n18, zd5, zd6, e18, itB, dlt_t h, wi_nat (show i < 2 ^ 62 by omega), ix_sl ha h, ix_sl ha2 h2, opV, zat, hn, hm, K2, f1, zaw, za1, zd4, List.length_map, List.length_append, List.length_replicate, List.map_append, List.map_cons, List.map_nil, List.append_assoc, K1]
theorem yay5 (S : List Int) (a a2 : Option Addr) (c c2 : Nat) (l : List MOp) (ha : okS a (l.map opV) = true) (ha2 : okS a2 (S.map zat) = true) (hS : S.length = l.length) (hl : l.length ≤ 64) (hso : ∀ i (h : i + 1 < S.length), S[i] ≤ S[i + 1]) (i : Nat) (hi : i = 0) :
  lim (some [11]) 0 (blk 3 (om Tryz.prog ⟨18, none⟩ 0 (.loop (lpb Tryz.f18 1)) ⟨⟨85, [(2, .rsl a2 c2 1 (S.map zat)), (11, .rsl none 0 0 []), (12, .int .i64 0), (48, .rsl a c 2 (l.map opV)), (49, .int .i64 l.length), (50, .int .i64 (i : Nat))]⟩, [], ⟨0, []⟩⟩)) =
  bif (S.drop i).all okT then (bif decide (l.length = 0) then some (.normal, ⟨⟨85, [(11, .rsl none 0 0 [])]⟩, [], ⟨0, []⟩⟩) else some (.normal, ⟨⟨85, [(11, .sl 0 0 (zpw (l.drop i) (S.drop i) 0).length 1)]⟩, [], ⟨1, [itB (zpw (l.drop i) (S.drop i) 0)]⟩⟩)) else some (.ret, ⟨⟨85, [(6, .rsl none 0 0 []), (7, .int .i64 2)]⟩, [], ⟨0, []⟩⟩) := by
 cases hz : decide (l.length = 0) with
 | true =>
  have hz' := of_decide_eq_true hz
  have e1 : l = [] := List.length_eq_zero_iff.1 hz'
  have e2 : S = [] := List.length_eq_zero_iff.1 (by omega)
  rw [e1, e2, hi, zac]
  simp (maxSteps := 1000000) -implicitDefEqProofs only [↓reduceIte, ↓cond_true, ↓cond_false, sr1, sr2, kA, seval, d18, n18, zd5, zd6, e18, List.length_nil, List.map_nil, List.all_nil]
 | false =>
  have h : i < l.length := by have := of_decide_eq_false hz; omega
  have h2 : i < S.length := by omega
  rw [zjl h2, zj1 h h2, zac]
  have hbad := zwc (s := S[i])
  cases hk : okT S[i] with
  | false =>
   rw [hk] at hbad
   cases hn : decide (S[i] < 0) with
   | true => simp (maxSteps := 1000000) -implicitDefEqProofs only [↓reduceIte, ↓cond_true, ↓cond_false, sr1, sr2, kA, seval, d18, n18, zd5, zd6, e18, dlt_t h, ix_sl ha h, ix_sl ha2 h2, opV, zat, hn]
   | false =>
    rw [hn] at hbad
    have hm : decide (4000 < S[i]) = true := by simpa using hbad.symm
    simp (maxSteps := 1000000) -implicitDefEqProofs only [↓reduceIte, ↓cond_true, ↓cond_false, sr1, sr2, kA, seval, d18, n18, zd5, zd6, e18, dlt_t h, ix_sl ha h, ix_sl ha2 h2, opV, zat, hn, hm]
  | true =>
   have hok := hk
   simp only [okT, Bool.and_eq_true, decide_eq_true_eq] at hok
   have hn : decide (S[i] < 0) = false := decide_eq_false (by omega)
   have hm : decide (4000 < S[i]) = false := decide_eq_false (by omega)
   have K2 := yaoo S a a2 c c2 l l[i] i ha2 h2 (by omega) l.length 0 (Int.le_refl _) (S[i] - 0).toNat (by omega)
   have K1 := yatx S a a2 c c2 l ha ha2 hS hl hso (i + 1) h (List.replicate (S[i] - 0).toNat (-1) ++ [l[i].instr]) S[i] hok.1 (fun h3 _ => hso i h3) (by simp; omega)
   have e3 : (List.replicate (S[i] - 0).toNat (-1) ++ [l[i].instr]).length = (S[i] - 0).toNat + 1 := by simp
   have e4 : ∀ n, (S[i] - 0).toNat + 1 + n = (S[i] - 0).toNat + (n + 1) := fun n => by omega
   simp only [e3, e4] at K1
   generalize hd : (S[i] - 0).toNat = d at *
   cases hd0 : decide (d = 0) with
   | true =>
    have hd' := of_decide_eq_true hd0
    rw [hd'] at K1 K2 ⊢
    have f1 : zos 8 0 1 = true := zco (by omega) (by decide)
    simp only [List.replicate_zero, List.nil_append, List.append_assoc, List.singleton_append, List.map_cons, List.map_nil, zat, itB, Nat.zero_add] at K1
    simp only [decide_true, cond_true, zyb, zat] at K2
    simp (maxSteps := 1000000) -implicitDefEqProofs only [↓reduceIte, ↓cond_true, ↓cond_false, sr1, sr2, kA, seval, d18, n18, zd5, zd6, e18, itB, dlt_t h, wi_nat (show i < 2 ^ 62 by omega), ix_sl ha h, ix_sl ha2 h2, opV, zat, hn, hm, K2, f1, zaw, za1, zd4, List.length_cons, List.replicate_zero, List.nil_append, List.map_cons, List.map_nil, K1]
   | false =>
    have f1 : zos 8 d 1 = true := zco (by omega) (by decide)
    rw [hd0] at K2
    simp only [List.append_assoc, List.singleton_append, List.cons_append, List.nil_append, List.map_append, List.map_cons, List.map_nil, zat, itB] at K1
    simp only [itB, zyb, cond_false, zat] at K2
    simp (maxSteps := 1000000) -implicitDefEqProofs only [↓reduceIte, ↓cond_true, ↓cond_false, sr1, sr2, kA, seval, d18, n18, zd5, zd6, e18, itB, dlt_t h, wi_nat (show i < 2 ^ 62 by omega), ix_sl ha h, ix_sl ha2 h2, opV, zat, hn, hm, K2, f1, zaw, za1, zd4, List.length_map, List.length_append, List.length_cons, List.length_replicate, List.map_append, List.map_cons, List.map_nil, List.append_assoc, K1]
def letE (m : MMach) (l : List MOp) (S : List Int) : Int := bif decide (zb3 m = 0) then (bif decide (64 < (l.length : Int)) then 4 else bif decide (zt6 m l = 0) then (bif decide (S.length = l.length) && (zfh S && S.all okT) then 0 else 2) else zt6 m l) else zb3 m
def letV (m : MMach) (l : List MOp) (S : List Int) : Rv := bif decide (letE m l S = 0) then (bif decide (l.length = 0) then some (.tup [.rsl none 0 0 [], .int .i64 0], ⟨0, []⟩) else some (.tup [.sl 0 0 (zpw l S 0).length 1, .int .i64 0], ⟨1, [itB (zpw l S 0)]⟩)) else some (.tup [.rsl none 0 0 [], .int .i64 (letE m l S)], ⟨0, []⟩)
theorem zog {l : List Int} : ∀ {n : Nat}, n < l.length → zdb l n = true → ∀ i (h : i + 1 < l.length), i < n → l[i] ≤ l[i + 1]
 | 0, _, _, i, _, hi => by omega
 | n + 1, hn, h, i, hil, hi => by
  rw [zdb] at h
  cases hd : decide (l.getD (n + 1) 0 < l.getD n 0) with
  | true => rw [hd] at h; cases h
  | false =>
   rw [hd] at h
   by_cases e : i = n
   ·subst e
    have := of_decide_eq_false hd
    rw [za2 hn, za2 (by omega)] at this
    omega
   ·exact zog (by omega) h i hil (by omega)
theorem zoi {l : List Int} (h : zfh l = true) : ∀ i (h : i + 1 < l.length), l[i] ≤ l[i + 1] := fun i hi => zog (n := l.length - 1) (by omega) h i hi (by omega)
theorem zv4 (m : MMach) (hm : MOk m) (a a2 : Option Addr) (c c2 : Nat) (l : List MOp) (S : List Int) (ha : okS a (l.map opV) = true) (ha2 : okS a2 (S.map zat) = true) (hl : l.length < 2 ^ 62) (hS : S.length < 2 ^ 62) : zas Tryz.prog (om Tryz.prog) 18 [zag m, .rsl a c 2 (l.map opV), .rsl a2 c2 1 (S.map zat)] ⟨0, []⟩ = letV m l S := by
 have hC := zk1 m hm
 have hI := yaar a2 c2 S ha2 hS
 simp only [zag, zae] at hC
 unfold letV letE
 rw [yarf _ _ (by simp)]
 cases h0 : decide (zb3 m = 0) with
 | false =>
  have h0' : (zb3 m = 0) = False := eq_false (of_decide_eq_false h0)
  simp (maxSteps := 1000000) -implicitDefEqProofs only [↓reduceIte, ↓cond_true, ↓cond_false, sr1, sr2, kA, seval, d18, n18, zd5, zd6, e18, zag, zae, hC, h0, h0']
 | true =>
  have h0' := of_decide_eq_true h0
  cases h1 : decide (64 < (l.length : Int)) with
  | true => simp (maxSteps := 1000000) -implicitDefEqProofs only [↓reduceIte, ↓cond_true, ↓cond_false, sr1, sr2, kA, seval, d18, n18, zd5, zd6, e18, zag, zae, hC, h0, h0', h1]
  | false =>
   have h64 := of_decide_eq_false h1
   have K0 := yatw m hm h0' a a2 c c2 l S ha hl 0 (Nat.zero_le _)
   simp only [zb2, zae, Int.natCast_zero, List.drop_zero] at K0
   cases h2 : decide (zt6 m l = 0) with
   | false =>
    rw [h2] at K0
    have h2' : (zt6 m l = 0) = False := eq_false (of_decide_eq_false h2)
    simp (maxSteps := 1000000) -implicitDefEqProofs only [↓reduceIte, ↓cond_true, ↓cond_false, sr1, sr2, kA, seval, d18, n18, zd5, zd6, e18, zag, zae, hC, h0, h0', h1, K0, h2']
   | true =>
    rw [h2] at K0
    cases h3 : decide (S.length = l.length) with
    | false =>
     have h3' : decide ((S.length : Int) = (l.length : Int)) = false := decide_eq_false (by have := of_decide_eq_false h3; omega)
     simp (maxSteps := 1000000) -implicitDefEqProofs only [↓reduceIte, ↓cond_true, ↓cond_false, sr1, sr2, kA, seval, d18, n18, zd5, zd6, e18, zag, zae, hC, h0, h0', h1, K0, h3']
    | true =>
     have h3e := of_decide_eq_true h3
     have h3' : decide ((S.length : Int) = (l.length : Int)) = true := decide_eq_true (by omega)
     cases h4 : zfh S with
     | false => simp (maxSteps := 1000000) -implicitDefEqProofs only [↓reduceIte, ↓cond_true, ↓cond_false, sr1, sr2, kA, seval, d18, n18, zd5, zd6, e18, zag, zae, hC, h0, h0', h1, K0, h3', hI, h4]
     | true =>
      have K1 := yay5 S a a2 c c2 l ha ha2 h3e (by omega) (zoi h4) 0 rfl
      simp only [Int.natCast_zero, List.drop_zero, itB] at K1
      cases h5 : S.all okT with
      | false =>
       rw [h5] at K1
       simp (maxSteps := 1000000) -implicitDefEqProofs only [↓reduceIte, ↓cond_true, ↓cond_false, sr1, sr2, kA, seval, d18, n18, zd5, zd6, e18, zag, zae, hC, h0, h0', h1, K0, h3', hI, h4, K1]
      | true =>
       rw [h5] at K1
       cases h6 : decide (l.length = 0) with
       | true =>
        rw [h6] at K1
        simp (maxSteps := 1000000) -implicitDefEqProofs only [↓reduceIte, ↓cond_true, ↓cond_false, sr1, sr2, kA, seval, d18, n18, zd5, zd6, e18, zag, zae, hC, h0, h0', h1, K0, h3', hI, h4, K1]
       | false =>
        rw [h6] at K1
        simp (maxSteps := 1000000) -implicitDefEqProofs only [↓reduceIte, ↓cond_true, ↓cond_false, sr1, sr2, kA, seval, d18, n18, zd5, zd6, e18, zag, zae, hC, h0, h0', h1, K0, h3', hI, h4, K1, itB, zaw, za1]
def zvz (S : List Int) (i : Nat) : Bool := okT (S.getD i 0) && !(decide (0 < i) && decide (S.getD i 0 < S.getD (i - 1) 0))
theorem zoh {l : List Int} : ∀ {n : Nat}, n < l.length → (∀ i (h : i + 1 < l.length), i < n → l[i] ≤ l[i + 1]) → zdb l n = true
 | 0, _, _ => rfl
 | n + 1, hn, h => by
  have := h n (by omega) (by omega)
  rw [zdb, za2 hn, za2 (by omega), decide_eq_false (by omega)]
  exact zoh (by omega) (fun i hi hin => h i hi (by omega))
theorem yahk {S : List Int} : zb0 (zvz S) 0 S.length = (zfh S && S.all okT) := by
 rw [Bool.eq_iff_iff, za5, Bool.and_eq_true, List.all_eq_true]
 constructor
 ·intro h
  refine ⟨?_, fun x hx => ?_⟩
  ·by_cases h0 : S.length = 0
   ·unfold zfh; rw [h0]; rfl
   ·refine zoh (by omega) fun i hi _ => ?_
    have := h (i + 1) (Nat.zero_le _) hi
    simp only [zvz, Bool.and_eq_true, Bool.not_eq_true', Bool.and_eq_false_iff, decide_eq_false_iff_not] at this
    rw [za2 hi, Nat.add_sub_cancel, za2 (by omega)] at this
    omega
  ·obtain ⟨i, hi, rfl⟩ := List.getElem_of_mem hx
   have := h i (Nat.zero_le _) hi
   simp only [zvz, Bool.and_eq_true] at this
   rw [za2 hi] at this
   exact this.1
 ·rintro ⟨h1, h2⟩ i _ hi
  simp only [zvz, Bool.and_eq_true]
  rw [za2 hi]
  refine ⟨h2 _ (List.getElem_mem hi), ?_⟩
  by_cases h0 : 0 < i
  ·have := zoi h1 (i - 1) (by omega)
   rw [za2 (show i - 1 < S.length by omega)]
   have e : i - 1 + 1 = i := by omega
   simp only [e] at this
   rw [decide_eq_false (show ¬ S[i] < S[i - 1] by omega), Bool.and_false]; rfl
  ·rw [decide_eq_false h0]; rfl
theorem yapt (S : List Int) (a a2 : Option Addr) (c c2 : Nat) (l : List MOp) (ha2 : okS a2 (S.map zat) = true) (hS : S.length = l.length) (hl : l.length < 2 ^ 62) : ∀ i, i ≤ l.length →
  lim (some [1, 2]) 0 (blk 0 (om Tryz.prog ⟨19, none⟩ 0 (.loop (lpb Tryz.f19 0)) ⟨⟨93, [(1, .rsl a c 2 (l.map opV)), (2, .rsl a2 c2 1 (S.map zat)), (8, .int .i64 (i : Nat))]⟩, [], ⟨0, []⟩⟩)) =
  bif zb0 (zvz S) i S.length then some (.normal, ⟨⟨93, [(1, .rsl a c 2 (l.map opV)), (2, .rsl a2 c2 1 (S.map zat))]⟩, [], ⟨0, []⟩⟩) else some (.ret, ⟨⟨93, [(6, .rsl none 0 0 []), (7, .int .i64 2)]⟩, [], ⟨0, []⟩⟩) := by
 refine zbl ?_ (fun i h ih => ?_) <;> rw [zac]
 ·rw [hS]; simp (maxSteps := 1000000) -implicitDefEqProofs only [↓reduceIte, ↓cond_true, ↓cond_false, sr1, sr2, kA, seval, d19, zfo, n19, zfs, e19, za4]
 ·have h2 : i < S.length := by omega
  rw [zbq h2]
  have hbad := zwc (s := S[i])
  have eg : zvz S i = (okT S[i] && !(decide (0 < i) && decide (S[i] < S.getD (i - 1) 0))) := by unfold zvz; rw [za2 h2]
  rw [eg]
  cases hk : okT S[i] with
  | false =>
   rw [hk] at hbad
   cases hn : decide (S[i] < 0) with
   | true => simp (maxSteps := 1000000) -implicitDefEqProofs only [↓reduceIte, ↓cond_true, ↓cond_false, sr1, sr2, kA, seval, d19, zfo, n19, zfs, e19, dlt_t h, ix_sl ha2 h2, zat, hn]
   | false =>
    rw [hn] at hbad
    have hm : decide (4000 < S[i]) = true := by simpa using hbad.symm
    simp (maxSteps := 1000000) -implicitDefEqProofs only [↓reduceIte, ↓cond_true, ↓cond_false, sr1, sr2, kA, seval, d19, zfo, n19, zfs, e19, dlt_t h, ix_sl ha2 h2, zat, hn, hm]
  | true =>
   rw [hk] at hbad
   have hok := hk
   simp only [okT, Bool.and_eq_true, decide_eq_true_eq] at hok
   have hn : decide (S[i] < 0) = false := decide_eq_false (by omega)
   have hm : decide (4000 < S[i]) = false := decide_eq_false (by omega)
   cases hp : decide (0 < i) with
   | false =>
    have hp' : decide (0 < (i : Int)) = false := decide_eq_false (by have := of_decide_eq_false hp; omega)
    simp (maxSteps := 1000000) -implicitDefEqProofs only [↓reduceIte, ↓cond_true, ↓cond_false, sr1, sr2, kA, seval, d19, zfo, n19, zfs, e19, dlt_t h, wi_nat (show i < 2 ^ 62 by omega), ix_sl ha2 h2, zat, hn, hm, hp', ih]
   | true =>
    have hpp := of_decide_eq_true hp
    have hp' : decide (0 < (i : Int)) = true := decide_eq_true (by omega)
    have h3 : i - 1 < S.length := by omega
    have w1 : IntKind.i64.wrap ((i : Int) - 1) = ((i - 1 : Nat) : Int) := by rw [zdr (by omega) (by omega)]; omega
    rw [za2 h3]
    cases hq : decide (S[i] < S[i - 1]) with
    | true => simp (maxSteps := 1000000) -implicitDefEqProofs only [↓reduceIte, ↓cond_true, ↓cond_false, sr1, sr2, kA, seval, d19, zfo, n19, zfs, e19, dlt_t h, wi_nat (show i < 2 ^ 62 by omega), ix_sl ha2 h2, ix_sl ha2 h3, zat, hn, hm, hp', w1, hq]
    | false => simp (maxSteps := 1000000) -implicitDefEqProofs only [↓reduceIte, ↓cond_true, ↓cond_false, sr1, sr2, kA, seval, d19, zfo, n19, zfs, e19, dlt_t h, wi_nat (show i < 2 ^ 62 by omega), ix_sl ha2 h2, ix_sl ha2 h3, zat, hn, hm, hp', w1, hq, ih]
theorem yae6 (S : List Int) (a a2 : Option Addr) (c c2 : Nat) (l : List MOp) (i : Nat) (ha : okS a2 (S.map zat) = true) (hi : i < S.length) (hs : S[i] ≤ 100000) : ∀ (d : Nat) (L : List Int) (t : Int), 0 ≤ t → t + d = S[i] → L.length + d < 10000000 →
  lim (some [1, 2, 9, 10]) 0 (blk 4 (om Tryz.prog ⟨19, none⟩ 0 (.loop (lpb Tryz.f19 2)) ⟨⟨93, [(1, .rsl a c 2 (l.map opV)), (2, .rsl a2 c2 1 (S.map zat)), (9, .sl 0 0 L.length 1), (10, .int .i64 (i : Nat)), (12, .int .i64 t)]⟩, [], ⟨1, [itB L]⟩⟩)) =
  some (.normal, ⟨⟨93, [(1, .rsl a c 2 (l.map opV)), (2, .rsl a2 c2 1 (S.map zat)), (9, .sl 0 0 (L.length + d) 1), (10, .int .i64 (i : Nat))]⟩, [], ⟨1, [itB (L ++ List.replicate d (-1))]⟩⟩) := by
 intro d
 induction d with
 | zero =>
  intro L t h0 h1 h2
  have et : t = S[i] := by omega
  rw [zac]
  simp (maxSteps := 1000000) -implicitDefEqProofs only [↓reduceIte, ↓cond_true, ↓cond_false, sr1, sr2, kA, seval, d19, zfo, n19, zfs, e19, itB, ix_sl ha hi, zat, et, Int.lt_irrefl, List.replicate_zero, zaw, za1]
 | succ d ih =>
  intro L t h0 h1 h2
  have d0 : decide (t < S[i]) = true := decide_eq_true (by omega)
  have w1 : IntKind.i64.wrap (t + 1) = t + 1 := zdr (by omega) (by omega)
  have f1 : zos 8 L.length 1 = true := zco (by omega) (by decide)
  have K := ih (L ++ [-1]) (t + 1) (by omega) (by omega) (by simp; omega)
  have e3 : (L ++ [-1]).length = L.length + 1 := by simp
  have e4 : L.length + 1 + d = L.length + (d + 1) := by omega
  simp only [e3, e4, List.append_assoc, List.singleton_append, List.map_append, List.map_cons, List.map_nil, zat, itB] at K
  rw [zac]
  simp (maxSteps := 1000000) -implicitDefEqProofs only [↓reduceIte, ↓cond_true, ↓cond_false, sr1, sr2, kA, seval, d19, zfo, n19, zfs, e19, itB, ix_sl ha hi, zat, d0, w1, f1, List.replicate_succ, zaw, za1, zd4, List.length_map, List.map_append, List.map_cons, List.map_nil, K]
theorem yai4 (S : List Int) (a a2 : Option Addr) (c c2 : Nat) (l : List MOp) (i : Nat) (ha : okS a2 (S.map zat) = true) (hi : i < S.length) (hs : S[i] ≤ 100000) (t : Int) (h0 : 0 ≤ t) (d : Nat) (h1 : t + d = S[i]) :
  lim (some [1, 2, 9, 10]) 0 (blk 4 (om Tryz.prog ⟨19, none⟩ 0 (.loop (lpb Tryz.f19 2)) ⟨⟨93, [(1, .rsl a c 2 (l.map opV)), (2, .rsl a2 c2 1 (S.map zat)), (9, .rsl none 0 0 []), (10, .int .i64 (i : Nat)), (12, .int .i64 t)]⟩, [], ⟨0, []⟩⟩)) =
  bif decide (d = 0) then some (.normal, ⟨⟨93, [(1, .rsl a c 2 (l.map opV)), (2, .rsl a2 c2 1 (S.map zat)), (9, .rsl none 0 0 []), (10, .int .i64 (i : Nat))]⟩, [], ⟨0, []⟩⟩) else
  some (.normal, ⟨⟨93, [(1, .rsl a c 2 (l.map opV)), (2, .rsl a2 c2 1 (S.map zat)), (9, .sl 0 0 d 1), (10, .int .i64 (i : Nat))]⟩, [], ⟨1, [itB (List.replicate d (-1))]⟩⟩) := by
 cases d with
 | zero =>
  have et : t = S[i] := by omega
  rw [zac]
  simp (maxSteps := 1000000) -implicitDefEqProofs only [↓reduceIte, ↓cond_true, ↓cond_false, sr1, sr2, kA, seval, d19, zfo, n19, zfs, e19, ix_sl ha hi, zat, et, Int.lt_irrefl]
 | succ d =>
  have d0 : decide (t < S[i]) = true := decide_eq_true (by omega)
  have w1 : IntKind.i64.wrap (t + 1) = t + 1 := zdr (by omega) (by omega)
  have f1 : zos 8 0 1 = true := zco (by omega) (by decide)
  have K := yae6 S a a2 c c2 l i ha hi hs d [-1] (t + 1) (by omega) (by omega) (by simp; omega)
  have e4 : 1 + d = d + 1 := by omega
  have dn : decide (d + 1 = 0) = false := decide_eq_false (by omega)
  simp only [List.length_cons, List.length_nil, Nat.zero_add, e4, List.singleton_append, List.map_cons, List.map_nil, zat, itB] at K
  rw [zac]
  simp (maxSteps := 1000000) -implicitDefEqProofs only [↓reduceIte, ↓cond_true, ↓cond_false, sr1, sr2, kA, seval, d19, zfo, n19, zfs, e19, itB, ix_sl ha hi, zat, d0, w1, f1, dn, List.replicate_succ, List.map_cons, List.map_nil, K]
theorem yapu (S : List Int) (a a2 : Option Addr) (c c2 : Nat) (l : List MOp) (ha : okS a (l.map opV) = true) (ha2 : okS a2 (S.map zat) = true) (hS : S.length = l.length) (hl : l.length ≤ 64) (hok : ∀ i (h : i < S.length), 0 ≤ S[i] ∧ S[i] ≤ 4000) (hso : ∀ i (h : i + 1 < S.length), S[i] ≤ S[i + 1]) : ∀ i, i ≤ l.length → 1 ≤ i → ∀ (L : List Int), L.length + 4002 * (l.length - i) < 1000000 →
  lim (some [9]) 0 (blk 2 (om Tryz.prog ⟨19, none⟩ 0 (.loop (lpb Tryz.f19 1)) ⟨⟨93, [(1, .rsl a c 2 (l.map opV)), (2, .rsl a2 c2 1 (S.map zat)), (9, .sl 0 0 L.length 1), (10, .int .i64 (i : Nat))]⟩, [], ⟨1, [itB L]⟩⟩)) =
  some (.normal, ⟨⟨93, [(9, .sl 0 0 (L.length + (zpw (l.drop i) (S.drop i) (S.getD (i - 1) 0)).length) 1)]⟩, [], ⟨1, [itB (L ++ zpw (l.drop i) (S.drop i) (S.getD (i - 1) 0))]⟩⟩) := by
 refine zbl (fun _ L hb => ?_) (fun i h ih h1 L hb => ?_) <;> rw [zac]
 ·have eS : S.drop l.length = [] := by rw [← hS, List.drop_length]
  simp (maxSteps := 1000000) -implicitDefEqProofs only [↓reduceIte, ↓cond_true, ↓cond_false, sr1, sr2, kA, seval, d19, zfo, n19, zfs, e19, itB, List.drop_length, eS, zpw, zaw, za1]
 ·have h2 : i < S.length := by omega
  have h3 : i - 1 < S.length := by omega
  have hok2 := hok i h2
  have hok3 := hok (i - 1) h3
  have hle : S[i - 1] ≤ S[i] := by have := hso (i - 1) (by omega); simpa [show i - 1 + 1 = i by omega] using this
  have w1 : IntKind.i64.wrap ((i : Int) - 1) = ((i - 1 : Nat) : Int) := by rw [zdr (by omega) (by omega)]; omega
  have hp : decide (0 < (i : Int)) = true := decide_eq_true (by omega)
  rw [zj1 h h2, za2 h3]
  have K2 := yae6 S a a2 c c2 l i ha2 h2 (by omega) (S[i] - S[i - 1]).toNat L S[i - 1] hok3.1 (by omega) (by omega)
  have f1 : zos 8 (L.length + (S[i] - S[i - 1]).toNat) 1 = true := zco (by omega) (by decide)
  have K1 := ih (by omega) (L ++ List.replicate (S[i] - S[i - 1]).toNat (-1) ++ [l[i].instr]) (by simp; omega)
  rw [Nat.add_sub_cancel, za2 h2] at K1
  have e3 : (L ++ List.replicate (S[i] - S[i - 1]).toNat (-1) ++ [l[i].instr]).length = L.length + (S[i] - S[i - 1]).toNat + 1 := by simp; omega
  have e4 : ∀ n, L.length + (S[i] - S[i - 1]).toNat + 1 + n = L.length + ((S[i] - S[i - 1]).toNat + (n + 1)) := fun n => by omega
  simp only [e3, e4] at K1
  simp only [List.append_assoc, List.singleton_append, List.cons_append, List.nil_append, List.map_append, List.map_cons, List.map_nil, zat, itB] at K1
  simp only [itB, List.map_append, zat] at K2
  simp (maxSteps := 1000000) -implicitDefEqProofs only [↓reduceIte, ↓cond_true, ↓cond_false, sr1, sr2, kA, seval, d19, zfo, n19, zfs, e19, itB, dlt_t h, wi_nat (show i < 2 ^ 62 by omega), ix_sl ha h, ix_sl ha2 h3, opV, zat, hp, w1, K2, f1, zaw, za1, zd4, List.length_map, List.length_append, List.length_replicate, List.length_cons, List.map_append, List.map_cons, List.map_nil, List.append_assoc, K1]
theorem yavh (S : List Int) (a a2 : Option Addr) (c c2 : Nat) (l : List MOp) (ha : okS a (l.map opV) = true) (ha2 : okS a2 (S.map zat) = true) (hS : S.length = l.length) (hl : l.length ≤ 64) (hok : ∀ i (h : i < S.length), 0 ≤ S[i] ∧ S[i] ≤ 4000) (hso : ∀ i (h : i + 1 < S.length), S[i] ≤ S[i + 1]) (i : Nat) (hi : i = 0) :
  lim (some [9]) 0 (blk 2 (om Tryz.prog ⟨19, none⟩ 0 (.loop (lpb Tryz.f19 1)) ⟨⟨93, [(1, .rsl a c 2 (l.map opV)), (2, .rsl a2 c2 1 (S.map zat)), (9, .rsl none 0 0 []), (10, .int .i64 (i : Nat))]⟩, [], ⟨0, []⟩⟩)) =
  bif decide (l.length = 0) then some (.normal, ⟨⟨93, [(9, .rsl none 0 0 [])]⟩, [], ⟨0, []⟩⟩) else some (.normal, ⟨⟨93, [(9, .sl 0 0 (zpw (l.drop i) (S.drop i) 0).length 1)]⟩, [], ⟨1, [itB (zpw (l.drop i) (S.drop i) 0)]⟩⟩) := by
 cases hz : decide (l.length = 0) with
 | true =>
  have e1 : l = [] := List.length_eq_zero_iff.1 (of_decide_eq_true hz)
  rw [e1, hi, zac]
  simp (maxSteps := 1000000) -implicitDefEqProofs only [↓reduceIte, ↓cond_true, ↓cond_false, sr1, sr2, kA, seval, d19, zfo, n19, zfs, e19, List.length_nil, List.map_nil]
 | false =>
  have h : i < l.length := by have := of_decide_eq_false hz; omega
  have h2 : i < S.length := by omega
  have hok2 := hok i h2
  rw [zj1 h h2, zac]
  have hp : decide (0 < (i : Int)) = false := decide_eq_false (by omega)
  have K2 := yai4 S a a2 c c2 l i ha2 h2 (by omega) 0 (Int.le_refl _) (S[i] - 0).toNat (by omega)
  have K1 := yapu S a a2 c c2 l ha ha2 hS hl hok hso (i + 1) h (by omega) (List.replicate (S[i] - 0).toNat (-1) ++ [l[i].instr]) (by simp; omega)
  rw [Nat.add_sub_cancel, za2 h2] at K1
  have e3 : (List.replicate (S[i] - 0).toNat (-1) ++ [l[i].instr]).length = (S[i] - 0).toNat + 1 := by simp
  have e4 : ∀ n, (S[i] - 0).toNat + 1 + n = (S[i] - 0).toNat + (n + 1) := fun n => by omega
  simp only [e3, e4] at K1
  generalize hd : (S[i] - 0).toNat = d at *
  cases hd0 : decide (d = 0) with
  | true =>
   have hd' := of_decide_eq_true hd0
   rw [hd'] at K1 K2 ⊢
   have f1 : zos 8 0 1 = true := zco (by omega) (by decide)
   simp only [List.replicate_zero, List.nil_append, List.append_assoc, List.singleton_append, List.map_cons, List.map_nil, zat, itB, Nat.zero_add] at K1
   simp only [decide_true, cond_true, zat] at K2
   simp (maxSteps := 1000000) -implicitDefEqProofs only [↓reduceIte, ↓cond_true, ↓cond_false, sr1, sr2, kA, seval, d19, zfo, n19, zfs, e19, itB, dlt_t h, wi_nat (show i < 2 ^ 62 by omega), ix_sl ha h, opV, zat, hp, K2, f1, zaw, za1, zd4, List.length_cons, List.replicate_zero, List.nil_append, List.map_cons, List.map_nil, K1]
  | false =>
   have f1 : zos 8 d 1 = true := zco (by omega) (by decide)
   rw [hd0] at K2
   simp only [List.append_assoc, List.singleton_append, List.cons_append, List.nil_append, List.map_append, List.map_cons, List.map_nil, zat, itB] at K1
   simp only [itB, cond_false, zat] at K2
   simp (maxSteps := 1000000) -implicitDefEqProofs only [↓reduceIte, ↓cond_true, ↓cond_false, sr1, sr2, kA, seval, d19, zfo, n19, zfs, e19, itB, dlt_t h, wi_nat (show i < 2 ^ 62 by omega), ix_sl ha h, opV, zat, hp, K2, f1, zaw, za1, zd4, List.length_map, List.length_append, List.length_cons, List.length_replicate, List.map_append, List.map_cons, List.map_nil, List.append_assoc, K1]
theorem zue (m : MMach) (hm : NOk8 m) (a a2 : Option Addr) (c c2 : Nat) (l : List MOp) (S : List Int) (ha : okS a (l.map opV) = true) (ha2 : okS a2 (S.map zat) = true) (hl : l.length < 2 ^ 62) (hS : S.length < 2 ^ 62) : zas Tryz.prog (om Tryz.prog) 19 [zag m, .rsl a c 2 (l.map opV), .rsl a2 c2 1 (S.map zat)] ⟨0, []⟩ = letV m l S := by
 have hF := yahc m hm a c l ha hl
 simp only [zag, zae] at hF
 unfold letV
 rw [yarg _ _ (by simp)]
 cases hE : decide (zvt m l = 0) with
 | false =>
  have e : letE m l S = zvt m l := by
   have hE' := of_decide_eq_false hE
   unfold zvt at hE' ⊢
   unfold letE
   cases h0 : decide (zb3 m = 0) with
   | false => rfl
   | true =>
    rw [h0] at hE'
    cases h1 : decide (64 < (l.length : Int)) with
    | true => rfl
    | false =>
     rw [h1] at hE'
     simp only [cond_true, cond_false] at hE' ⊢
     rw [decide_eq_false hE']; rfl
  have hE' : (zvt m l = 0) = False := eq_false (of_decide_eq_false hE)
  simp (maxSteps := 1000000) -implicitDefEqProofs only [↓reduceIte, ↓cond_true, ↓cond_false, sr1, sr2, kA, seval, d19, zfo, n19, zfs, e19, zag, zae, hF, e, hE']
 | true =>
  have hE' := of_decide_eq_true hE
  have hs : zb3 m = 0 ∧ l.length ≤ 64 ∧ zt6 m l = 0 := by
   unfold zvt at hE'
   cases h0 : decide (zb3 m = 0) with
   | false => rw [h0] at hE'; exact absurd hE' (of_decide_eq_false h0)
   | true =>
    rw [h0] at hE'
    cases h1 : decide (64 < (l.length : Int)) with
    | true => rw [h1] at hE'; simp at hE'
    | false =>
     rw [h1] at hE'
     exact ⟨of_decide_eq_true h0, by have := of_decide_eq_false h1; omega, hE'⟩
  have e : letE m l S = bif decide (S.length = l.length) && (zfh S && S.all okT) then 0 else 2 := by
   unfold letE
   rw [decide_eq_true hs.1, decide_eq_false (show ¬ (64 < (l.length : Int)) by omega), decide_eq_true hs.2.2]; rfl
  rw [e]
  cases h3 : decide (S.length = l.length) with
  | false =>
   have h3' : decide ((S.length : Int) = (l.length : Int)) = false := decide_eq_false (by have := of_decide_eq_false h3; omega)
   simp (maxSteps := 1000000) -implicitDefEqProofs only [↓reduceIte, ↓cond_true, ↓cond_false, sr1, sr2, kA, seval, d19, zfo, n19, zfs, e19, zag, zae, hF, hE', h3']
  | true =>
   have h3e := of_decide_eq_true h3
   have h3' : decide ((S.length : Int) = (l.length : Int)) = true := decide_eq_true (by omega)
   have K0 := yapt S a a2 c c2 l ha2 h3e hl 0 (Nat.zero_le _)
   rw [yahk] at K0
   simp only [Int.natCast_zero] at K0
   cases h4 : (zfh S && S.all okT) with
   | false =>
    rw [h4] at K0
    simp (maxSteps := 1000000) -implicitDefEqProofs only [↓reduceIte, ↓cond_true, ↓cond_false, sr1, sr2, kA, seval, d19, zfo, n19, zfs, e19, zag, zae, hF, hE', h3', K0]
   | true =>
    rw [h4] at K0
    rw [Bool.and_eq_true, List.all_eq_true] at h4
    have K1 := yavh S a a2 c c2 l ha ha2 h3e hs.2.1 (fun i h => by have := h4.2 _ (List.getElem_mem h); simpa [okT] using this) (zoi h4.1) 0 rfl
    simp only [Int.natCast_zero, List.drop_zero, itB] at K1
    cases h6 : decide (l.length = 0) with
    | true =>
     rw [h6] at K1
     simp (maxSteps := 1000000) -implicitDefEqProofs only [↓reduceIte, ↓cond_true, ↓cond_false, sr1, sr2, kA, seval, d19, zfo, n19, zfs, e19, zag, zae, hF, hE', h3', K0, K1]
    | false =>
     rw [h6] at K1
     simp (maxSteps := 1000000) -implicitDefEqProofs only [↓reduceIte, ↓cond_true, ↓cond_false, sr1, sr2, kA, seval, d19, zfo, n19, zfs, e19, zag, zae, hF, hE', h3', K0, K1, itB, zaw, za1]
def zsq (f : MTerm → Int → Int × Bool) (lim : Int) : List MTerm → Int → Int × Bool
 | [], n => (n, true)
 | x :: l, n => bif decide (n ≤ lim) then (bif (f x (lim - n)).2 then zsq f lim l (n + (f x (lim - n)).1) else (n, false)) else (n, true)
def zou : Nat → MTerm → Int → Int × Bool
 | 0, _, _ => (1, false)
 | d + 1, t, lim => zsq (zou d) lim t.sub 1
theorem zvj {f : MTerm → Int → Int × Bool} {lim : Int} (hf : ∀ x k, 0 ≤ k → 1 ≤ (f x k).1 ∧ (f x k).1 ≤ k + 1) : ∀ {l : List MTerm} {n : Int}, 1 ≤ n → n ≤ lim + 1 → n ≤ (zsq f lim l n).1 ∧ (zsq f lim l n).1 ≤ lim + 1
 | [], n, h0, h1 => ⟨Int.le_refl _, h1⟩
 | x :: l, n, h0, h1 => by
  simp only [zsq]
  cases h : decide (n ≤ lim) with
  | false => exact ⟨Int.le_refl _, h1⟩
  | true =>
   have h' := of_decide_eq_true h
   have hx := hf x (lim - n) (by omega)
   simp only [cond_true]
   cases (f x (lim - n)).2 with
   | false => exact ⟨Int.le_refl _, h1⟩
   | true =>
    have := zvj (lim := lim) hf (l := l) (n := n + (f x (lim - n)).1) (by omega) (by omega)
    simp only [cond_true]
    omega
theorem zvi : ∀ (d : Nat) (x : MTerm) (k : Int), 0 ≤ k → 1 ≤ (zou d x k).1 ∧ (zou d x k).1 ≤ k + 1
 | 0, x, k, h => by simp [zou]; omega
 | d + 1, x, k, h => by
  have := zvj (lim := k) (zvi d) (l := x.sub) (n := 1) (by omega) (by omega)
  rw [zou]; exact this
theorem yacc {f : MTerm → Int → Int × Bool} {lim : Int} (hf : ∀ x k, (f x k).2 = true → (f x k).1 ≤ k → (x.sz : Int) = (f x k).1) (hg : ∀ x k, 0 ≤ k → 1 ≤ (f x k).1 ∧ (f x k).1 ≤ k + 1) : ∀ {l : List MTerm} {n : Int}, 1 ≤ n → n ≤ lim + 1 → (zsq f lim l n).2 = true → (zsq f lim l n).1 ≤ lim → n + (szL l : Int) = (zsq f lim l n).1
 | [], n, _, _, _, _ => by simp [zsq, szL]
 | x :: l, n, h0, h1, h2, h3 => by
  simp only [zsq] at h2 h3 ⊢
  cases h : decide (n ≤ lim) with
  | false =>
   rw [h] at h3
   have := of_decide_eq_false h
   simp only [cond_false] at h3
   omega
  | true =>
   have h' := of_decide_eq_true h
   have hx := hg x (lim - n) (by omega)
   rw [h] at h2 h3
   simp only [cond_true] at h2 h3 ⊢
   cases hb : (f x (lim - n)).2 with
   | false => rw [hb] at h2; cases h2
   | true =>
    rw [hb] at h2 h3
    simp only [cond_true] at h2 h3 ⊢
    have hle := zvj (lim := lim) hg (l := l) (n := n + (f x (lim - n)).1) (by omega) (by omega)
    have := yacc (lim := lim) hf hg (l := l) (n := n + (f x (lim - n)).1) (by omega) (by omega) h2 h3
    have hs := hf x (lim - n) hb (by omega)
    rw [zd7]
    omega
theorem yacb : ∀ (d : Nat) (x : MTerm) (k : Int), (zou d x k).2 = true → (zou d x k).1 ≤ k → (x.sz : Int) = (zou d x k).1
 | 0, x, k, h, _ => by cases h
 | d + 1, x, k, h2, h3 => by
  rw [zou] at h2 h3 ⊢
  have hg := zvi d
  by_cases hk : 0 ≤ k
  ·have := yacc (lim := k) (yacb d) hg (l := x.sub) (n := 1) (by omega) (by omega) h2 h3
   rw [zr0]; omega
  ·exfalso
   cases hs : x.sub with
   | nil => rw [hs] at h3; simp [zsq] at h3; omega
   | cons y l =>
    rw [hs] at h3
    simp only [zsq, decide_eq_false (show ¬ (1 : Int) ≤ k by omega), cond_false] at h3
    omega
structure RawT (t : MTerm) : Prop where
 l : ∀ x ∈ t.nodes, x.sub.length < 2 ^ 62
 n : ∀ x ∈ t.nodes, x.nm.size < 2 ^ 62
theorem RawT.sub {t x : MTerm} (h : RawT t) (hx : x ∈ t.sub) : RawT x := ⟨fun y hy => h.l y (zfu hx hy), fun y hy => h.n y (zfu hx hy)⟩
def resC (r : Int × Bool) : Rx := bif r.2 then some (.normal, ⟨⟨47, [(8, .int .i64 r.1)]⟩, [], ⟨0, []⟩⟩) else some (.ret, ⟨⟨47, [(6, .int .i64 r.1), (7, .bool false)]⟩, [], ⟨0, []⟩⟩)
theorem yan4 (d : Nat) (hd : d + 1 ≤ 80) (t : MTerm) (ht : RawT t) (lm : Int) (h0 : 0 ≤ lm) (h1 : lm ≤ 500) (hS : ∀ x ∈ t.sub, ∀ k : Int, 0 ≤ k → k ≤ 500 → zas Tryz.prog (om Tryz.prog) 49 [zaf x, .int .i64 k, .int .i64 (d : Int)] ⟨0, []⟩ = some (.tup [.int .i64 (zou d x k).1, .bool (zou d x k).2], ⟨0, []⟩)) :
  ∀ i, i ≤ t.sub.length → ∀ n : Int, 1 ≤ n → n ≤ lm + 1 → lim (some [8]) 0 (blk 0 (om Tryz.prog ⟨49, none⟩ 0 (.loop (lpb Tryz.f49 0)) ⟨⟨47, [(1, .int .i64 lm), (2, .int .i64 ((d + 1 : Nat) : Int)), (3, .ptr 0 0), (8, .int .i64 n), (9, .int .i64 i)]⟩, [], tH t⟩)) = resC (zsq (zou d) lm (t.sub.drop i) n) := by
 have hl := ht.l t (zep t)
 have wd : IntKind.i64.wrap (((d + 1 : Nat) : Int) - 1) = (d : Int) := by rw [zdr (by omega) (by omega)]; omega
 refine zbl (fun n h2 h3 => ?_) (fun i h ih n h2 h3 => ?_) <;> rw [zac]
 ·simp (maxSteps := 1000000) -implicitDefEqProofs only [↓reduceIte, ↓cond_true, ↓cond_false, sr1, sr2, kA, seval, d49, n49, e49, tH, zah, List.drop_length, zsq, resC]
 ·rw [List.drop_eq_getElem_cons h]
  simp only [zsq]
  cases hn : decide (n ≤ lm) with
  | false => simp (maxSteps := 1000000) -implicitDefEqProofs only [↓reduceIte, ↓cond_true, ↓cond_false, sr1, sr2, kA, seval, d49, n49, e49, tH, zah, dlt_t h, hn, resC]
  | true =>
   have hn' := of_decide_eq_true hn
   have hx := hS t.sub[i] (List.getElem_mem h) (lm - n) (by omega) (by omega)
   have hb := zvi d t.sub[i] (lm - n) (by omega)
   have wl : IntKind.i64.wrap (lm - n) = lm - n := zdr (by omega) (by omega)
   generalize zou d t.sub[i] (lm - n) = r at hx hb ⊢
   simp only [zaf, zah] at hx
   cases h2' : r.2 with
   | false =>
    rw [h2'] at hx
    simp (maxSteps := 1000000) -implicitDefEqProofs only [↓reduceIte, ↓cond_true, ↓cond_false, sr1, sr2, kA, seval, d49, n49, e49, tH, zah, zaf, dlt_t h, hn, zcu h, wd, wl, hx, resC]
   | true =>
    rw [h2'] at hx
    have wa : IntKind.i64.wrap (n + r.1) = n + r.1 := zdr (by omega) (by omega)
    have L := ih (n + r.1) (by omega) (by omega)
    simp only [tH, zah] at L
    simp (maxSteps := 1000000) -implicitDefEqProofs only [↓reduceIte, ↓cond_true, ↓cond_false, sr1, sr2, kA, seval, d49, n49, e49, tH, zah, zaf, dlt_t h, wi_nat (show i < 2 ^ 62 by omega), hn, zcu h, wd, wl, wa, hx, L]
theorem zsv : ∀ (d : Nat), d ≤ 80 → ∀ (t : MTerm), RawT t → ∀ lm : Int, 0 ≤ lm → lm ≤ 500 → zas Tryz.prog (om Tryz.prog) 49 [zaf t, .int .i64 lm, .int .i64 (d : Int)] ⟨0, []⟩ = some (.tup [.int .i64 (zou d t lm).1, .bool (zou d t lm).2], ⟨0, []⟩)
 | 0, _, t, ht, lm, h0, h1 => by
  rw [yaj5 _ _ (by simp)]
  simp (maxSteps := 1000000) -implicitDefEqProofs only [↓reduceIte, ↓cond_true, ↓cond_false, sr1, sr2, kA, seval, d49, n49, e49, zaf, zah, zou]
 | d + 1, hd, t, ht, lm, h0, h1 => by
  have L := yan4 d hd t ht lm h0 h1 (fun x hx k k0 k1 => zsv d (by omega) x (ht.sub hx) k k0 k1) 0 (Nat.zero_le _) 1 (by omega) (by omega)
  have hz : decide (((d + 1 : Nat) : Int) = 0) = false := decide_eq_false (by omega)
  rw [List.drop_zero] at L
  simp only [tH, zah, Int.natCast_zero] at L
  have e : zou (d + 1) t lm = zsq (zou d) lm t.sub 1 := rfl
  rw [e]
  generalize zsq (zou d) lm t.sub 1 = r at L ⊢
  rw [yaj5 _ _ (by simp)]
  cases h2 : r.2 with
  | true =>
   unfold resC at L
   rw [h2] at L
   simp (maxSteps := 1000000) -implicitDefEqProofs only [↓reduceIte, ↓cond_true, ↓cond_false, sr1, sr2, kA, seval, d49, n49, e49, zaf, zah, hz, L]
  | false =>
   unfold resC at L
   rw [h2] at L
   simp (maxSteps := 1000000) -implicitDefEqProofs only [↓reduceIte, ↓cond_true, ↓cond_false, sr1, sr2, kA, seval, d49, n49, e49, zaf, zah, hz, L]
def zj2 (t : MTerm) : Bool := !t.nodes.all fun x => decide ((x.nm.size : Int) ≤ 200)
theorem yat2 (t : MTerm) (ht : RawT t) (hS : ∀ x ∈ t.sub, zas Tryz.prog (om Tryz.prog) 50 [zaf x] ⟨0, []⟩ = some (.bool (zj2 x), ⟨0, []⟩)) : ∀ i, i ≤ t.sub.length → lim (some [1]) 0 (blk 0 (om Tryz.prog ⟨50, none⟩ 0 (.loop (lpb Tryz.f50 0)) ⟨⟨21, [(1, .ptr 0 0), (3, .int .i64 i)]⟩, [], tH t⟩)) = bif (t.sub.drop i).all (fun x => !zj2 x) then some (.normal, ⟨⟨21, [(1, .ptr 0 0)]⟩, [], tH t⟩) else some (.ret, ⟨⟨21, [(2, .bool true)]⟩, [], ⟨0, []⟩⟩) := by
 have hl := ht.l t (zep t)
 refine zbl ?_ (fun i h ih => ?_) <;> rw [zac]
 ·simp (maxSteps := 1000000) -implicitDefEqProofs only [↓reduceIte, ↓cond_true, ↓cond_false, sr1, sr2, kA, seval, d50, n50, e50, tH, zah, List.drop_length]
 ·have hx := hS t.sub[i] (List.getElem_mem h)
  rw [zcy h]
  simp only [tH, zaf, zah] at hx ih
  cases hr : zj2 t.sub[i] with
  | true =>
   rw [hr] at hx
   simp (maxSteps := 1000000) -implicitDefEqProofs only [↓reduceIte, ↓cond_true, ↓cond_false, sr1, sr2, kA, seval, d50, n50, e50, tH, dlt_t h, zcu h, zaf, zah, hx]
  | false =>
   rw [hr] at hx
   simp (maxSteps := 1000000) -implicitDefEqProofs only [↓reduceIte, ↓cond_true, ↓cond_false, sr1, sr2, kA, seval, d50, n50, e50, tH, dlt_t h, wi_nat (show i < 2 ^ 62 by omega), zcu h, zaf, zah, hx, ih]
theorem yah6 (t : MTerm) (ht : RawT t) : zas Tryz.prog (om Tryz.prog) 50 [zaf t] ⟨0, []⟩ = some (.bool (zj2 t), ⟨0, []⟩) := by
 refine zcc (Q := fun t => RawT t → zas Tryz.prog (om Tryz.prog) 50 [zaf t] ⟨0, []⟩ = some (.bool (zj2 t), ⟨0, []⟩)) (fun t ih ht => ?_) t ht
 have L := yat2 t ht (fun x hx => ih x hx (ht.sub hx)) 0 (Nat.zero_le _)
 have e : zj2 t = (!t.sub.all (fun x => !zj2 x) || decide (200 < (t.nm.size : Int))) := by
  have e1 : zj2 t = !(decide ((t.nm.size : Int) ≤ 200) && t.sub.all fun x => x.nodes.all fun x => decide ((x.nm.size : Int) ≤ 200)) := by unfold zj2; rw [zcx]
  have e2 : (t.sub.all fun x => !zj2 x) = t.sub.all fun x => x.nodes.all fun x => decide ((x.nm.size : Int) ≤ 200) := by
   congr 1; funext x; unfold zj2; rw [Bool.not_not]
  have e3 : decide ((t.nm.size : Int) ≤ 200) = !decide (200 < (t.nm.size : Int)) := by
   by_cases q : (t.nm.size : Int) ≤ 200
   ·rw [decide_eq_true q, decide_eq_false (by omega)]; rfl
   ·rw [decide_eq_false q, decide_eq_true (by omega)]; rfl
  rw [e1, e2, e3, Bool.not_and, Bool.not_not, Bool.or_comm]
 rw [List.drop_zero] at L
 rw [e]
 simp only [tH, zah, Int.natCast_zero] at L
 rw [yart _ _ (by simp)]
 cases hb : t.sub.all (fun x => !zj2 x) with
 | true =>
  rw [hb] at L
  simp (maxSteps := 1000000) -implicitDefEqProofs only [↓reduceIte, ↓cond_true, ↓cond_false, sr1, sr2, kA, seval, d50, n50, e50, zaf, zah, L]
 | false =>
  rw [hb] at L
  simp (maxSteps := 1000000) -implicitDefEqProofs only [↓reduceIte, ↓cond_true, ↓cond_false, sr1, sr2, kA, seval, d50, n50, e50, zaf, zah, L]
def ze0 (t : MTerm) : Bool := !(zou 80 t 500).2 || (decide (500 < (zou 80 t 500).1) || zj2 t)
theorem zk0 (t : MTerm) (ht : RawT t) : zas Tryz.prog (om Tryz.prog) 24 [zaf t] ⟨0, []⟩ = some (.bool (ze0 t), ⟨0, []⟩) := by
 have hC := zsv 80 (Nat.le_refl _) t ht 500 (by decide) (by decide)
 have hL := yah6 t ht
 simp only [zaf, zah, Int.cast_ofNat_Int] at hC hL
 rw [yarh _ _ (by simp)]
 simp (maxSteps := 1000000) -implicitDefEqProofs only [↓reduceIte, ↓cond_true, ↓cond_false, sr1, sr2, kA, seval, d24, n24, zaf, zah, hC, hL, ze0, Bool.or_assoc]
theorem zjw {t : MTerm} (h : ze0 t = false) : t.sz ≤ 500 ∧ ∀ x ∈ t.nodes, x.nm.size ≤ 200 := by
 unfold ze0 at h
 simp only [Bool.or_eq_false_iff, Bool.not_eq_false', decide_eq_false_iff_not] at h
 have hs := yacb 80 t 500 h.1 (by omega)
 refine ⟨by omega, fun x hx => ?_⟩
 have := h.2.2
 unfold zj2 at this
 rw [Bool.not_eq_false', List.all_eq_true] at this
 have := of_decide_eq_true (this x hx)
 omega
end Go.Proofs.YtibehelnfbcnjaaGreatDoor.v
