/- The abstract interpreter is sound, 14: a quiet operation, at whatever place of the machine's order. Conditions: none. -/
import Derived.Test.YtlbkcdfllglddaaAb16
set_option linter.unusedSimpArgs false
set_option linter.unusedVariables false
namespace Go.Ab
open Go Go.RowKit

mutual
theorem conc_all {p : Nat → Bool} {ι ι' : Inj} (h : ∀ b, p b = true → ι' b = ι b) : ∀ v : AV, v.all p = true → v.conc ι' = v.conc ι
  | .bool _, _ | .int _ _, _ | .str _, _ | .nilp, _ | .nilf, _ | .nili, _ | .map none, _ => rfl
  | .ptr b _, k => by simp only [AV.all] at k; simp [AV.conc, h b k]
  | .sl b _ _ _, k => by simp only [AV.all] at k; simp [AV.conc, h b k]
  | .map (some b), k => by simp only [AV.all] at k; simp [AV.conc, h b k]
  | .yieldf b, k => by simp only [AV.all] at k; simp [AV.conc, h b k]
  | .rptr _ _, _ | .rsl _ _ _ _, _ => rfl
  | .func _ a b, k => by simp only [AV.all, Bool.and_eq_true] at k; simp only [AV.conc, concL_all h a k.1, concL_all h b k.2]
  | .iface _ v, k => by simp only [AV.all] at k; simp only [AV.conc, conc_all h v k]
  | .agg l, k | .tup l, k => by simp only [AV.all] at k; simp only [AV.conc, concL_all h l k]
theorem concL_all {p : Nat → Bool} {ι ι' : Inj} (h : ∀ b, p b = true → ι' b = ι b) : ∀ l : List AV, AV.allL p l = true → AV.concL ι' l = AV.concL ι l
  | [], _ => rfl
  | v :: vs, k => by simp only [AV.allL, Bool.and_eq_true] at k; simp only [AV.concL, conc_all h v k.1, concL_all h vs k.2]
end
mutual
theorem all_and {p q : Nat → Bool} : ∀ v : AV, v.all p = true → v.all q = true → v.all (fun b => p b && q b) = true
  | .bool _, _, _ | .int _ _, _, _ | .str _, _, _ | .nilp, _, _ | .nilf, _, _ | .nili, _, _ | .map none, _, _ | .rptr _ _, _, _ | .rsl _ _ _ _, _, _ => rfl
  | .ptr b _, h, k | .sl b _ _ _, h, k | .map (some b), h, k | .yieldf b, h, k => by simp only [AV.all] at h k ⊢; simp [h, k]
  | .func _ a b, h, k => by simp only [AV.all, Bool.and_eq_true] at h k ⊢; exact ⟨allL_and a h.1 k.1, allL_and b h.2 k.2⟩
  | .iface _ v, h, k => by simp only [AV.all] at h k ⊢; exact all_and v h k
  | .agg l, h, k | .tup l, h, k => by simp only [AV.all] at h k ⊢; exact allL_and l h k
theorem allL_and {p q : Nat → Bool} : ∀ l : List AV, AV.allL p l = true → AV.allL q l = true → AV.allL (fun b => p b && q b) l = true
  | [], _, _ => rfl
  | v :: vs, h, k => by simp only [AV.allL, Bool.and_eq_true] at h k ⊢; exact ⟨all_and v h.1 k.1, allL_and vs h.2 k.2⟩
end
mutual
theorem all_lt {w0 : World} {base n : Nat} : ∀ v : AV, v.OK w0 base n → v.all (fun b => decide (b < n)) = true
  | .bool _, _ | .int _ _, _ | .str _, _ | .nilp, _ | .nilf, _ | .nili, _ | .map none, _ | .rptr _ _, _ | .rsl _ _ _ _, _ => rfl
  | .ptr b _, k | .sl b _ _ _, k | .map (some b), k | .yieldf b, k => by simp only [AV.OK] at k; simp [AV.all, k]
  | .func _ a b, k => by simp only [AV.OK] at k; simp only [AV.all, Bool.and_eq_true]; exact ⟨allL_lt a k.1, allL_lt b k.2⟩
  | .iface _ v, k => by simp only [AV.OK] at k; simp only [AV.all]; exact all_lt v k
  | .agg l, k | .tup l, k => by simp only [AV.OK] at k; simp only [AV.all]; exact allL_lt l k
theorem allL_lt {w0 : World} {base n : Nat} : ∀ l : List AV, AV.OKL w0 base n l → AV.allL (fun b => decide (b < n)) l = true
  | [], _ => rfl
  | v :: vs, k => by simp only [AV.OKL] at k; simp only [AV.allL, Bool.and_eq_true]; exact ⟨all_lt v k.1, allL_lt vs k.2⟩
end
theorem allL_iff (p : Nat → Bool) : ∀ l : List AV, AV.allL p l = true ↔ ∀ v ∈ l, v.all p = true
  | [] => by simp [AV.allL]
  | v :: vs => by simp [AV.allL, allL_iff p vs]

section
variable {P : Program} {w0 : World} {base lo : Nat} {ι ι1 ι2 : Inj} {H H1 H2 : Heap} {w w1 w2 : World} {ex : ExF}

theorem BlkRel.all [E : Env] {p : Nat → Bool} (h : ∀ b, p b = true → ι1 b = ι b) {x : Blk} (k : x.all p = true) {cap : Nat} {o : Option Obj} (r : BlkRel P ι cap o x) : BlkRel P ι1 cap o x := by
  cases x with
  | cells t cs =>
    obtain ⟨c, ho, ⟨rest, hr⟩, hs⟩ := r
    refine ⟨c, ho, ⟨rest, ?_⟩, hs⟩
    simp only [Blk.all] at k
    rw [hr, ← concL_eq, ← concL_eq, concL_all h cs k]
  | map es c =>
    simp only [BlkRel, mapEntries] at r ⊢
    simp only [Blk.all, List.all_eq_true, Bool.and_eq_true] at k
    rw [r]
    congr 2
    refine congrArg List.toArray (List.map_congr_left fun e he => ?_)
    rw [conc_all h _ (k e he).1, conc_all h _ (k e he).2]
  | iter s p => exact r
  | loop st pend fn tmps params assign body d =>
    simp only [Blk.all, Bool.and_eq_true] at k
    simp only [BlkRel] at r ⊢
    rw [r, ← concL_eq, ← concL_eq, concL_all h tmps k.1, h d k.2]
  | dfr => exact r
theorem BlkOK.all_lt [E : Env] {n : Nat} {x : Blk} (k : BlkOK w0 base n x) : x.all (fun b => decide (b < n)) = true := by
  cases x with
  | cells t cs => simp only [Blk.all]; exact allL_lt cs ((OKL_iff ..).2 k)
  | map es c => simp only [Blk.all, List.all_eq_true, Bool.and_eq_true]; exact fun e he => ⟨Go.Ab.all_lt _ (k e he).1, Go.Ab.all_lt _ (k e he).2⟩
  | loop st pend fn tmps params assign body d => simp only [Blk.all, Bool.and_eq_true]; exact ⟨allL_lt tmps ((OKL_iff ..).2 k.1), by simpa using k.2⟩
  | _ => rfl
theorem Blk.all_and [E : Env] {p q : Nat → Bool} {x : Blk} (h : x.all p = true) (k : x.all q = true) : x.all (fun b => p b && q b) = true := by
  cases x with
  | cells t cs => simp only [Blk.all] at h k ⊢; exact allL_and cs h k
  | map es c =>
    simp only [Blk.all, List.all_eq_true, Bool.and_eq_true] at h k ⊢
    exact fun e he => ⟨Go.Ab.all_and _ (h e he).1 (k e he).1, Go.Ab.all_and _ (h e he).2 (k e he).2⟩
  | loop st pend fn tmps params assign body d => simp only [Blk.all, Bool.and_eq_true] at h k ⊢; exact ⟨allL_and tmps h.1 k.1, h.2, k.2⟩
  | _ => rfl

/-- the quiet operations as the interpreter took them, in the text's order -/
structure Trace [E : Env] (P : Program) (ex : ExF) (ops : Array Oper) (bef : Array Nat) (m : Nat) (e : Nat → List AV) (h : Nat → Heap) (kp : Nat → List (Nat × Nat × Nat)) (val : Nat → AV) : Prop where
  k0 : kp 0 = []
  step : ∀ j, j < m → ∃ o, ops[j]? = some o ∧ QS P ex ops bef j o (e j) (h j) (kp j) (val j) (h (j + 1)) (kp (j + 1)) ∧ e (j + 1) = putE (e j) o.dst (val j)

section
variable {ops : Array Oper} {bef : Array Nat} {m : Nat} {e : Nat → List AV} {h : Nat → Heap} {kp : Nat → List (Nat × Nat × Nat)} {val : Nat → AV}

/-- how the heap and what is noted of it go on -/
theorem Trace.one [E : Env] (T : Trace P ex ops bef m e h kp val) {j : Nat} (hj : j < m) :
    (h j).next ≤ (h (j + 1)).next ∧ (∀ b, b < (h j).next → (h (j + 1)).get b = (h j).get b) ∧
    ((kp (j + 1) = kp j ∧ (h (j + 1)).next = (h j).next) ∨ kp (j + 1) = (j, (h j).next, (h (j + 1)).next - (h j).next) :: kp j) := by
  obtain ⟨o, ho, hq, _⟩ := T.step j hj
  rcases hq with ⟨_, _, h1, h2⟩ | ⟨_, hf, hop, _, _, h2⟩ | ⟨_, K, hop, _, ⟨h1, h2, _⟩ | ⟨_, h1, h2⟩⟩
  · rw [h1, h2]; exact ⟨Nat.le_refl _, fun _ _ => rfl, .inl ⟨rfl, rfl⟩⟩
  · rcases heapFree_indep hf hop (h j) rfl with ⟨h1, _⟩ | ⟨x, h1, _⟩
    · rw [h1] at h2 ⊢
      simp only [if_true] at h2
      exact ⟨Nat.le_refl _, fun _ _ => rfl, .inl ⟨h2, rfl⟩⟩
    · rw [h1] at h2 ⊢
      refine ⟨by simp, fun b hb => by rw [Heap.get_push, if_neg (by omega)], .inr ?_⟩
      rw [h2, if_neg (by simp)]
  · rw [h1, h2]; exact ⟨Nat.le_refl _, fun _ _ => rfl, .inl ⟨rfl, rfl⟩⟩
  · rw [h1, h2]
    refine ⟨by simp [growH], fun b hb => by rw [growH_get, if_neg (by omega)], .inr ?_⟩
    simp [growH]
theorem Trace.mono [E : Env] (T : Trace P ex ops bef m e h kp val) : ∀ i j, i ≤ j → j ≤ m → (h i).next ≤ (h j).next ∧ ∀ b, b < (h i).next → (h j).get b = (h i).get b := by
  intro i j hij
  induction hij with
  | refl => exact fun _ => ⟨Nat.le_refl _, fun _ _ => rfl⟩
  | step hij ih =>
    rename_i j
    intro hj
    obtain ⟨h1, h2⟩ := ih (by omega)
    obtain ⟨h3, h4, _⟩ := T.one (j := j) (by omega)
    exact ⟨Nat.le_trans h1 h3, fun b hb => (h4 b (by omega)).trans (h2 b hb)⟩
theorem Trace.kept [E : Env] (T : Trace P ex ops bef m e h kp val) : ∀ i, i ≤ m → (∀ q ∈ kp i, q.1 < i ∧ q.2.1 = (h q.1).next ∧ q.2.1 + q.2.2 = (h (q.1 + 1)).next) ∧ ∀ j, j < i → (h j).next < (h (j + 1)).next → ∃ q ∈ kp i, q.1 = j
  | 0, _ => by rw [T.k0]; exact ⟨by simp, fun j hj => by omega⟩
  | i + 1, hi => by
    obtain ⟨k1, k2⟩ := T.kept i (by omega)
    obtain ⟨h1, _, h3⟩ := T.one (j := i) (by omega)
    rcases h3 with ⟨h3, h4⟩ | h3
    · rw [h3]
      refine ⟨fun q hq => ?_, fun j hj hlt => ?_⟩
      · obtain ⟨a, b⟩ := k1 q hq; exact ⟨by omega, b⟩
      · by_cases e : j = i
        · subst e; omega
        · exact k2 j (by omega) hlt
    · rw [h3]
      refine ⟨fun q hq => ?_, fun j hj hlt => ?_⟩
      · rcases List.mem_cons.1 hq with rfl | hq
        · exact ⟨by simp, rfl, by simp; omega⟩
        · obtain ⟨a, b⟩ := k1 q hq; exact ⟨by omega, b⟩
      · by_cases e : j = i
        · subst e; exact ⟨_, List.mem_cons_self, rfl⟩
        · obtain ⟨q, hq, e2⟩ := k2 j (by omega) hlt
          exact ⟨q, by simp [hq], e2⟩
theorem putE_length (env : List AV) (d : Option Tmp) (v : AV) : (putE env d v).length = env.length := by cases d <;> simp [putE]
theorem Trace.env [E : Env] (T : Trace P ex ops bef m e h kp val) : ∀ i, i ≤ m → (e i).length = (e 0).length ∧ ∀ t, (e i)[t]? = valT ops (e 0) val (fun _ => true) i t
  | 0, _ => ⟨rfl, fun t => rfl⟩
  | i + 1, hi => by
    obtain ⟨h1, h2⟩ := T.env i (by omega)
    obtain ⟨o, ho, _, he⟩ := T.step i (by omega)
    rw [he]
    refine ⟨by rw [putE_length, h1], fun t => ?_⟩
    simp only [valT, true_and]
    have hd : dstOf ops i = o.dst := by simp [dstOf, ho]
    rw [hd]
    cases hdst : o.dst with
    | none => simp [putE, h2 t]
    | some d =>
      simp only [putE, Option.some.injEq]
      rw [List.getElem?_set]
      by_cases e1 : d = t
      · subst e1
        by_cases e2 : d < (e i).length
        · rw [if_pos rfl, if_pos e2, if_pos ⟨rfl, h1 ▸ e2⟩]
        · rw [if_pos rfl, if_neg e2, if_neg (fun q => e2 (h1 ▸ q.2)), ← h2 d, List.getElem?_eq_none (Nat.le_of_not_lt e2)]
      · rw [if_neg e1, if_neg (by simp [e1]), h2 t]
end
end
end Go.Ab
