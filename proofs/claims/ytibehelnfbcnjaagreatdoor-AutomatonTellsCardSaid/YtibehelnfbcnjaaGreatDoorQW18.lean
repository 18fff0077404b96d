/- What the law's proof leans on, part 44. Conditions: in each statement. -/
import Derived.Test.YtibehelnfbcnjaaGreatDoorQW17
set_option linter.all false
set_option linter.unusedSimpArgs false
set_option linter.unusedVariables false
set_option linter.unusedSectionVars false
namespace Go.Ab
open Go Go.RowKit
theorem zbs (b : Nat) : ∀ (l : List Nat) (H : Heap), (zbw H l).get b = if b ∈ l then none else H.get b
  | [], H => by simp [zbw]
  | c :: l, H => by
    rw [zbw, zbs b l, Heap.get_kill]
    by_cases h1 : b ∈ l
    · simp [h1]
    · by_cases h2 : b = c <;> simp [h1, h2]
theorem zh2 : ∀ (l : List Nat) (H : Heap), (zbw H l).next = H.next
  | [], _ => rfl
  | c :: l, H => by rw [zbw, zh2 l]; rfl
theorem zym (K : Heap) (b : Nat) : ∀ (l : List Nat) (H : Heap), (zu0 H K l).get b = if b ∈ l then K.get b else H.get b
  | [], H => by simp [zu0]
  | c :: l, H => by
    rw [zu0, zym K b l, Heap.get_setO]
    by_cases h1 : b ∈ l
    · simp [h1]
    · by_cases h2 : b = c
      · subst h2; simp [h1]
      · simp [h1, h2]
theorem zt9 (K : Heap) : ∀ (l : List Nat) (H : Heap), (zu0 H K l).next = H.next
  | [], _ => rfl
  | c :: l, H => by rw [zu0, zt9 K l]; rfl
def LS [E : Env] (P : Program) (ex : ExF) (ops : Array Oper) (bef : Array Nat) (m : Nat) (W : Nat → List Nat) (j : Nat) (o : Oper) (env : EV) (H : Heap) (kept : List (Nat × Nat × Nat)) (v : AV) (H' : Heap) (kept' : List (Nat × Nat × Nat)) : Prop :=
  (zle ops env o = some false ∧ v = undefA ∧ H' = H ∧ kept' = kept) ∨
  (zle ops env o = some true ∧ ∃ V, opA P ex 0 env (zbw H (zjd W bef m j H.next kept)) o = some (v, V) ∧ LOk (zjd W bef m j H.next kept) (zjd (fun _ => []) bef m j H.next kept) (W j) H V v ∧
    ((∀ b, H'.get b = if b ∈ zjd W bef m j H.next kept then H.get b else V.get b) ∧ H'.next = V.next) ∧ kept' = if V.next = H.next then kept else (j, H.next, V.next - H.next) :: kept)
theorem yaoj {W : Nat → List Nat} {bef : Array Nat} {m j n b : Nat} {k : List (Nat × Nat × Nat)} (hb : b ∈ zjd W bef m j n k) : b < n := by
  simpa using (List.mem_filter.1 hb).2
theorem LS.free [E : Env] {P : Program} {ex : ExF} {ops : Array Oper} {bef : Array Nat} {m : Nat} {W : Nat → List Nat} {j : Nat} {o : Oper} {env : EV} {H V : Heap} {kept : List (Nat × Nat × Nat)} {v : AV} (hw : zle ops env o = some true)
    (hf : zd2 o.op = true) (hop : opA P ex 0 env H o = some (v, V)) (hok : LOk (zjd W bef m j H.next kept) (zjd (fun _ => []) bef m j H.next kept) (W j) H V v) : LS P ex ops bef m W j o env H kept v V (if V.next = H.next then kept else (j, H.next, V.next - H.next) :: kept) := by
  generalize hhl : zjd W bef m j H.next kept = hl at hok
  have hlt : ∀ b, b ∈ hl → b < H.next := fun b hb => by rw [← hhl] at hb; exact yaoj hb
  have hkn : (zbw H hl).next = H.next := zh2 _ _
  rcases zo1 hf hop (zbw H hl) hkn with ⟨h1, h2⟩ | ⟨x, h1, h2⟩
  · subst h1
    refine .inr ⟨hw, zbw V hl, by rw [hhl]; exact h2, ?_, ?_, by rw [hkn]⟩
    · rw [hhl]
      exact ⟨by rw [hkn]; exact Nat.le_refl _, fun h b x hx => by
          rw [zbs] at hx
          split at hx
          · cases hx
          · rw [hkn]; exact h b x hx, hok.val, hok.own, fun b hb hnw hnh => by rw [zbs, if_neg (by simpa using hnh)],
        fun b x hb hx => by
          rw [zbs] at hx
          split at hx
          · cases hx
          · rw [hkn] at hb; exact hok.new b x hb hx⟩
    · rw [hhl]
      refine ⟨fun b => ?_, by rw [hkn]⟩
      rw [zbs]
      by_cases hb : b ∈ hl <;> simp [hb]
  · subst h1
    have hne : H.next ∉ hl := fun h => by have := hlt _ h; omega
    refine .inr ⟨hw, (zbw H hl).push x, by rw [hhl]; exact h2, ?_, ?_, by simp [hkn]⟩
    · rw [hhl]
      refine ⟨by simp [hkn], fun h b y hy => ?_, hok.val, hok.own, fun b hb hnw hnh => ?_, fun b y hb hy => ?_⟩
      · rw [Heap.get_push, hkn] at hy
        split at hy
        · simp [hkn]; omega
        · rw [zbs] at hy
          split at hy
          · cases hy
          · have := h b y hy; simp [hkn]; omega
      · rw [Heap.get_push, hkn, if_neg (by omega), zbs, if_neg (by simpa using hnh)]
      · refine hok.new b y (by simpa [hkn] using hb) ?_
        rw [Heap.get_push, hkn] at hy
        rw [Heap.get_push]
        split at hy
        · rename_i e; rw [if_pos e]; exact hy
        · rename_i e
          rw [if_neg e]
          rw [zbs] at hy
          split at hy
          · cases hy
          · exact hy
    · rw [hhl]
      refine ⟨fun b => ?_, by simp [hkn]⟩
      rw [Heap.get_push, Heap.get_push, hkn, zbs]
      by_cases hb : b ∈ hl
      · have := hlt b hb
        rw [if_pos hb, if_neg (by omega)]
      · rw [if_neg hb, if_neg hb]
section
variable {P : Program} {w0 : World} {base : Nat} {ι ι0 ι1 ι2 : Inj} {H H1 H2 : Heap} {w w00 w1 w2 : World} {ex : ExF}
theorem zp5 [E : Env] (ops : Array Oper) (bef : Array Nat) (m : Nat) (W : Nat → List Nat) : ∀ (l : List Oper) (i : Nat) (env : EV) (H : Heap) (kept : List (Nat × Nat × Nat)) (env' : EV) (H' : Heap), (∀ j o, l[j]? = some o → ops[i + j]? = some o) →
    zy3 P ex ops bef m W i l env H kept = some (env', H') →
    ∃ (e : Nat → EV) (h : Nat → Heap) (kp : Nat → List (Nat × Nat × Nat)) (val : Nat → AV), e i = env ∧ h i = H ∧ kp i = kept ∧ e (i + l.length) = env' ∧ h (i + l.length) = H' ∧
      ∀ j, i ≤ j → j < i + l.length → ∃ o, ops[j]? = some o ∧ LS P ex ops bef m W j o (e j) (h j) (kp j) (val j) (h (j + 1)) (kp (j + 1)) ∧ e (j + 1) = zcw (e j) o.dst (val j)
  | [], i, env, H, kept, env', H', _, h => by
    simp only [zy3] at h; cases h
    exact ⟨fun _ => env, fun _ => H, fun _ => kept, fun _ => undefA, rfl, rfl, rfl, rfl, rfl, fun j h1 h2 => absurd h2 (by simp; omega)⟩
  | o :: l, i, env, H, kept, env', H', hl, h => by
    have ho : ops[i]? = some o := by have := hl 0 o rfl; simpa using this
    have hl' : ∀ j o', l[j]? = some o' → ops[i + 1 + j]? = some o' := fun j o' hj => by have := hl (j + 1) o' (by simpa using hj); simpa [Nat.add_assoc, Nat.add_comm 1 j] using this
    have build : ∀ (v : AV) (H1 : Heap) (k1 : List (Nat × Nat × Nat)), LS P ex ops bef m W i o env H kept v H1 k1 → zy3 P ex ops bef m W (i + 1) l (zcw env o.dst v) H1 k1 = some (env', H') →
        ∃ (e : Nat → EV) (h : Nat → Heap) (kp : Nat → List (Nat × Nat × Nat)) (val : Nat → AV), e i = env ∧ h i = H ∧ kp i = kept ∧ e (i + (o :: l).length) = env' ∧ h (i + (o :: l).length) = H' ∧
          ∀ j, i ≤ j → j < i + (o :: l).length → ∃ o, ops[j]? = some o ∧ LS P ex ops bef m W j o (e j) (h j) (kp j) (val j) (h (j + 1)) (kp (j + 1)) ∧ e (j + 1) = zcw (e j) o.dst (val j) := by
      intro v H1 k1 hq hr
      obtain ⟨e, h, kp, val, e1, e2, e3, e4, e5, e6⟩ := zp5 ops bef m W l (i + 1) _ H1 k1 env' H' hl' hr
      refine ⟨fun j => if j = i then env else e j, fun j => if j = i then H else h j, fun j => if j = i then kept else kp j, fun j => if j = i then v else val j, by simp, by simp, by simp, ?_, ?_, fun j h1 h2 => ?_⟩
      · dsimp only; rw [if_neg (by simp), ← e4]; congr 1; simp; omega
      · dsimp only; rw [if_neg (by simp), ← e5]; congr 1; simp; omega
      · by_cases hj : j = i
        · subst hj
          refine ⟨o, ho, ?_, ?_⟩
          · dsimp only; rw [if_pos rfl, if_pos rfl, if_pos rfl, if_pos rfl, if_neg (by omega), if_neg (by omega), e2, e3]; exact hq
          · dsimp only; rw [if_pos rfl, if_pos rfl, if_neg (by omega), e1]
        · obtain ⟨o', h3, h4, h5⟩ := e6 j (by omega) (by simp at h2; omega)
          refine ⟨o', h3, ?_, ?_⟩
          · dsimp only; rw [if_neg hj, if_neg hj, if_neg hj, if_neg hj, if_neg (by omega), if_neg (by omega)]; exact h4
          · dsimp only; rw [if_neg hj, if_neg hj, if_neg (by omega)]; exact h5
    simp only [zy3] at h
    split at h
    · rename_i hw
      split at h
      · rename_i hf
        split at h
        · rename_i v V hop
          split at h
          · rename_i hc
            exact build v _ _ (LS.free hw hf hop (@of_decide_eq_true _ (_) hc)) h
          · cases h
        · cases h
      · split at h
        · rename_i v V hop
          split at h
          · rename_i hc
            refine build v _ _ (.inr ⟨hw, V, hop, @of_decide_eq_true _ (_) hc, ?_, rfl⟩) h
            exact ⟨fun b => zym _ _ _ _, zt9 _ _ _⟩
          · cases h
        · cases h
    · rename_i hw
      exact build undefA H _ (.inl ⟨hw, rfl, rfl, rfl⟩) h
    · cases h
structure LT [E : Env] (P : Program) (ex : ExF) (ops : Array Oper) (bef : Array Nat) (m : Nat) (W : Nat → List Nat) (e : Nat → EV) (h : Nat → Heap) (kp : Nat → List (Nat × Nat × Nat)) (val : Nat → AV) : Prop where
  k0 : kp 0 = []
  step : ∀ j, j < m → ∃ o, ops[j]? = some o ∧ LS P ex ops bef m W j o (e j) (h j) (kp j) (val j) (h (j + 1)) (kp (j + 1)) ∧ e (j + 1) = zcw (e j) o.dst (val j)
section
variable {ops : Array Oper} {bef : Array Nat} {m : Nat} {W : Nat → List Nat} {e : Nat → EV} {h : Nat → Heap} {kp : Nat → List (Nat × Nat × Nat)} {val : Nat → AV}
def Aff (h : Nat → Heap) (Wd : Nat → List Nat) (j b : Nat) : Prop := b ∈ Wd j ∨ ((h j).next ≤ b ∧ b < (h (j + 1)).next)
noncomputable def ya0c (W : Nat → List Nat) (h : Nat → Heap) (ran : Nat → Bool) (j : Nat) : List Nat := if ran j then W j else []
theorem LT.env [E : Env] (T : LT P ex ops bef m W e h kp val) : ∀ i, i ≤ m → (e i).n = (e 0).n ∧ ∀ t, (e i).look t = zlc ops (e 0) val (fun _ => true) i t
  | 0, _ => ⟨rfl, fun t => rfl⟩
  | i + 1, hi => by
    obtain ⟨h1, h2⟩ := T.env i (by omega)
    obtain ⟨o, ho, _, he⟩ := T.step i (by omega)
    rw [he]
    have hd : zgn ops i = o.dst := by simp [zgn, ho]
    cases hdst : o.dst with
    | none => exact ⟨h1, fun t => by simp only [zlc, true_and, hd, hdst]; rw [if_neg (by simp)]; exact h2 t⟩
    | some d =>
      refine ⟨by simp only [zcw, yazx, h1], fun t => ?_⟩
      simp only [zcw, yagd, zlc, true_and, hd, hdst, Option.some.injEq, h1]
      split
      · rfl
      · exact h2 t
def hl (W : Nat → List Nat) (bef : Array Nat) (m : Nat) (h : Nat → Heap) (kp : Nat → List (Nat × Nat × Nat)) (j : Nat) : List Nat := zjd W bef m j (h j).next (kp j)
def Af [E : Env] (W : Nat → List Nat) (ops : Array Oper) (e : Nat → EV) (h : Nat → Heap) (j b : Nat) : Prop :=
  ∃ o, ops[j]? = some o ∧ zle ops (e j) o = some true ∧ (b ∈ W j ∨ ((h j).next ≤ b ∧ b < (h (j + 1)).next))
theorem LT.next [E : Env] (T : LT P ex ops bef m W e h kp val) {j : Nat} (hj : j < m) : (h j).next ≤ (h (j + 1)).next := by
  obtain ⟨o, ho, hq, _⟩ := T.step j hj
  rcases hq with ⟨_, _, h1, _⟩ | ⟨_, V, _, hok, h1, _⟩
  · rw [h1]; exact Nat.le_refl _
  · rw [h1.2]; exact hok.next
theorem LT.mono [E : Env] (T : LT P ex ops bef m W e h kp val) : ∀ i j, i ≤ j → j ≤ m → (h i).next ≤ (h j).next := by
  intro i j hij
  induction hij with
  | refl => exact fun _ => Nat.le_refl _
  | step hij ih => exact fun hj => Nat.le_trans (ih (by omega)) (T.next (by omega))
theorem LT.lt [E : Env] (T : LT P ex ops bef m W e h kp val) (h0 : ∀ b x, (h 0).get b = some x → b < (h 0).next) : ∀ j, j ≤ m → ∀ b x, (h j).get b = some x → b < (h j).next
  | 0, _ => h0
  | j + 1, hj => by
    have ih := LT.lt T h0 j (by omega)
    obtain ⟨o, ho, hq, _⟩ := T.step j (by omega)
    rcases hq with ⟨_, _, h1, _⟩ | ⟨_, V, _, hok, h1, _⟩
    · rw [h1]; exact ih
    · intro b x hx
      rw [h1.2]
      rw [h1.1] at hx
      split at hx
      · have := ih b x hx; have := hok.next; omega
      · exact hok.lt ih b x hx
theorem LT.same [E : Env] (T : LT P ex ops bef m W e h kp val) {j b : Nat} (hj : j < m) (hb : b < (h j).next) (hn : ¬ Af W ops e h j b) : (h (j + 1)).get b = (h j).get b := by
  obtain ⟨o, ho, hq, _⟩ := T.step j hj
  rcases hq with ⟨_, _, h1, _⟩ | ⟨hw, V, _, hok, h1, _⟩
  · rw [h1]
  · rw [h1.1]
    by_cases hh : b ∈ zjd W bef m j (h j).next (kp j)
    · rw [if_pos hh]
    · rw [if_neg hh]
      exact hok.same b hb (fun hw' => hn ⟨o, ho, hw, .inl hw'⟩) (by simpa using hh)
theorem LT.kept [E : Env] (T : LT P ex ops bef m W e h kp val) : ∀ i, i ≤ m → ∀ j, j < i → (h j).next < (h (j + 1)).next → (j, (h j).next, (h (j + 1)).next - (h j).next) ∈ kp i
  | 0, _ => fun j hj => absurd hj (by omega)
  | i + 1, hi => by
    intro j hj hlt
    obtain ⟨o, ho, hq, _⟩ := T.step i (by omega)
    have hk : kp (i + 1) = if (h (i + 1)).next = (h i).next then kp i else (i, (h i).next, (h (i + 1)).next - (h i).next) :: kp i := by
      rcases hq with ⟨_, _, h1, h2⟩ | ⟨_, V, _, _, h1, h2⟩
      · rw [h2, h1]; simp
      · rw [h2, h1.2]
    rw [hk]
    by_cases e1 : j = i
    · subst e1; rw [if_neg (by omega)]; exact List.mem_cons_self
    · have := T.kept i (by omega) j (by omega) hlt
      split
      · exact this
      · exact List.mem_cons_of_mem _ this
theorem yaf6 {i j : Nat} : zuo bef i j = true ↔ i ≠ j ∧ (bef.getD i 0).testBit j = false ∧ (bef.getD j 0).testBit i = false := by
  simp [zuo, and_assoc]
theorem yac7 {i j n b : Nat} {k : List (Nat × Nat × Nat)} (hi : i < m) (hu : zuo bef i j = true) (hb : b ∈ W i) (hn : b < n) : b ∈ zjd W bef m j n k := by
  unfold zjd
  refine List.mem_filter.2 ⟨List.mem_append.2 (.inl (List.mem_flatMap.2 ⟨i, List.mem_range.2 hi, ?_⟩)), by simpa using hn⟩
  rw [if_pos hu]; exact hb
theorem yac8 {i j n a c b : Nat} {k : List (Nat × Nat × Nat)} (hk : (i, a, c) ∈ k) (hu : (bef.getD j 0).testBit i = false) (h1 : a ≤ b) (h2 : b < a + c) (hn : b < n) : b ∈ zjd W bef m j n k := by
  unfold zjd
  refine List.mem_filter.2 ⟨List.mem_append.2 (.inr (List.mem_flatMap.2 ⟨_, hk, ?_⟩)), by simpa using hn⟩
  simp only [hu, Bool.false_eq_true, if_false]
  exact List.mem_range'_1.2 ⟨h1, h2⟩
theorem yaou {j n b : Nat} {k : List (Nat × Nat × Nat)} (hb : b ∈ zjd (fun _ => []) bef m j n k) : b ∈ zjd W bef m j n k := by
  unfold zjd at hb ⊢
  obtain ⟨h1, h2⟩ := List.mem_filter.1 hb
  refine List.mem_filter.2 ⟨?_, h2⟩
  rcases List.mem_append.1 h1 with h | h
  · obtain ⟨i, _, hi⟩ := List.mem_flatMap.1 h
    split at hi <;> cases hi
  · exact List.mem_append.2 (.inr h)
theorem yath {j n b : Nat} {k : List (Nat × Nat × Nat)} (hb : b ∈ zjd W bef m j n k) : b < n := by
  simpa using (List.mem_filter.1 hb).2
theorem LT.af [E : Env] (T : LT P ex ops bef m W e h kp val) {j b : Nat} (hj : j < m) (ha : Af W ops e h j b) : b ∉ hl W bef m h kp j ∧ b < (h (j + 1)).next := by
  obtain ⟨o, ho, hq, _⟩ := T.step j hj
  obtain ⟨o', ho', hw, ha⟩ := ha
  rw [ho] at ho'; cases ho'
  rcases hq with ⟨hw', _⟩ | ⟨_, V, _, hok, h1, _⟩
  · rw [hw] at hw'; cases hw'
  · have hn := T.next hj
    rcases ha with ha | ha
    · obtain ⟨h2, h3⟩ := hok.own b ha
      exact ⟨by simpa [hl] using h3, by omega⟩
    · exact ⟨fun hh => by have := yath hh; omega, ha.2⟩
theorem LT.ordered [E : Env] (T : LT P ex ops bef m W e h kp val) {i q b : Nat} (hi : i < m) (hq : q < m) (hne : q ≠ i) (hb : b < (h i).next) (hv : b ∉ hl W bef m h kp i) (ha : Af W ops e h q b) :
    (bef.getD i 0).testBit q = true ∨ (bef.getD q 0).testBit i = true := by
  cases h1 : (bef.getD i 0).testBit q with
  | true => exact .inl rfl
  | false =>
    cases h2 : (bef.getD q 0).testBit i with
    | true => exact .inr rfl
    | false =>
      exfalso
      obtain ⟨o, ho, hw, ha⟩ := ha
      rcases ha with ha | ha
      · exact hv (yac7 hq (yaf6.2 ⟨hne, h2, h1⟩) ha hb)
      · rcases Nat.lt_or_ge q i with hlt | hge
        · exact hv (yac8 (T.kept i (by omega) q hlt (by omega)) h1 ha.1 (by omega) hb)
        · have := T.mono i q hge (by omega); omega
theorem LT.both [E : Env] (T : LT P ex ops bef m W e h kp val) {i q b : Nat} (hi : i < m) (hq : q < m) (hne : q ≠ i) (h1 : Af W ops e h i b) (h2 : Af W ops e h q b) :
    (bef.getD i 0).testBit q = true ∨ (bef.getD q 0).testBit i = true := by
  obtain ⟨v1, l1⟩ := T.af hi h1
  obtain ⟨v2, l2⟩ := T.af hq h2
  by_cases hb : b < (h i).next
  · exact T.ordered hi hq hne hb v1 h2
  · by_cases hb2 : b < (h q).next
    · exact (T.ordered hq hi (fun k => hne k.symm) hb2 v2 h1).symm
    · rcases Nat.lt_or_ge q i with hlt | hge
      · have := T.mono (q + 1) i (by omega) (by omega); omega
      · have := T.mono (i + 1) q (by omega) (by omega); omega
noncomputable def zgk [E : Env] (W : Nat → List Nat) (ops : Array Oper) (e : Nat → EV) (h : Nat → Heap) (D : Nat → Bool) : Nat → Nat → Option Blk
  | 0, b => if b < (h 0).next then (h 0).get b else none
  | i + 1, b => if D i = true ∧ @decide (Af W ops e h i b) (Classical.propDecidable _) = true then (h (i + 1)).get b else zgk W ops e h D i b
theorem zgs [E : Env] {D : Nat → Bool} {i b : Nat} (h1 : D i = true) (h2 : Af W ops e h i b) : zgk W ops e h D (i + 1) b = (h (i + 1)).get b := by
  rw [zgk, if_pos ⟨h1, by simpa using h2⟩]
theorem zeb [E : Env] {D : Nat → Bool} {i b : Nat} (h1 : D i = true → ¬ Af W ops e h i b) : zgk W ops e h D (i + 1) b = zgk W ops e h D i b := by
  rw [zgk, if_neg (fun k => h1 k.1 (by simpa using k.2))]
theorem zu9 [E : Env] {D : Nat → Bool} {b i : Nat} : ∀ k, i ≤ k → (∀ j, i ≤ j → j < k → D j = true → ¬ Af W ops e h j b) → zgk W ops e h D k b = zgk W ops e h D i b := by
  intro k hk
  induction hk with
  | refl => exact fun _ => rfl
  | step hk ih =>
    rename_i k
    intro hw
    rw [zeb (fun hd => hw k hk (by omega) hd), ih (fun j h1 h2 => hw j h1 (by omega))]
theorem zm2 [E : Env] {D D' : Nat → Bool} {b : Nat} : ∀ k, (∀ j, j < k → Af W ops e h j b → D j = D' j) → zgk W ops e h D k b = zgk W ops e h D' k b
  | 0, _ => rfl
  | k + 1, hw => by
    by_cases ha : Af W ops e h k b
    · by_cases hd : D k = true
      · rw [zgs hd ha, zgs (by rw [← hw k (by omega) ha]; exact hd) ha]
      · rw [zeb (fun k' => absurd k' hd), zeb (fun k' => by rw [← hw k (by omega) ha] at k'; exact absurd k' hd), zm2 k (fun j hj => hw j (by omega))]
    · rw [zeb (fun _ => ha), zeb (fun _ => ha), zm2 k (fun j hj => hw j (by omega))]
theorem zfk [E : Env] {D : Nat → Bool} {b : Nat} {x : Blk} : ∀ k, zgk W ops e h D k b = some x → (b < (h 0).next ∧ (h 0).get b = some x) ∨ ∃ j, j < k ∧ D j = true ∧ Af W ops e h j b ∧ (h (j + 1)).get b = some x
  | 0, hx => by
    rw [zgk] at hx
    split at hx
    · rename_i hb; exact .inl ⟨hb, hx⟩
    · cases hx
  | k + 1, hx => by
    by_cases hc : D k = true ∧ Af W ops e h k b
    · rw [zgs hc.1 hc.2] at hx; exact .inr ⟨k, by omega, hc.1, hc.2, hx⟩
    · rw [zeb (fun h1 h2 => hc ⟨h1, h2⟩)] at hx
      rcases zfk k hx with h1 | ⟨j, h1, h2⟩
      · exact .inl h1
      · exact .inr ⟨j, by omega, h2⟩
theorem LT.blk [E : Env] (T : LT P ex ops bef m W e h kp val) {D : Nat → Bool} {b : Nat} : ∀ k, k ≤ m → b < (h k).next → (∀ q, q < k → Af W ops e h q b → D q = true) → zgk W ops e h D k b = (h k).get b
  | 0, _, hb, _ => by rw [zgk, if_pos hb]
  | k + 1, hk, hb, hq => by
    by_cases ha : Af W ops e h k b
    · exact zgs (hq k (by omega) ha) ha
    · have hbk : b < (h k).next := by
        apply Classical.byContradiction
        intro hge
        obtain ⟨o, ho, hs, _⟩ := T.step k (by omega)
        rcases hs with ⟨_, _, h1, _⟩ | ⟨hw, V, _, _, h1, _⟩
        · rw [h1] at hb; omega
        · exact ha ⟨o, ho, hw, .inr ⟨by omega, hb⟩⟩
      rw [zeb (fun _ => ha), T.blk k (by omega) hbk (fun q h1 => hq q (by omega)), T.same (by omega) hbk ha]
end
end
end Go.Ab
