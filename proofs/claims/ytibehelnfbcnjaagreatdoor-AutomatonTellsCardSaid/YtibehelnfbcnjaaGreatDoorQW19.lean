/- What the law's proof leans on, part 45. Conditions: in each statement. -/
import Derived.Test.YtibehelnfbcnjaaGreatDoorQW18
set_option linter.all false
set_option linter.unusedSimpArgs false
set_option linter.unusedVariables false
set_option linter.unusedSectionVars false
namespace Go.Ab
open Go Go.RowKit
section
variable {P : Program} {w0 : World} {base : Nat} {ι ι0 ι1 ι2 : Inj} {H H1 H2 : Heap} {w w00 w1 w2 : World} {ex : ExF}
variable {ops : Array Oper} {bef : Array Nat} {m : Nat} {W : Nat → List Nat} {e : Nat → EV} {h : Nat → Heap} {kp : Nat → List (Nat × Nat × Nat)} {val : Nat → AV} {marks : List Nat} {D : Nat → Bool} {a : Act}
def seen (W : Nat → List Nat) (bef : Array Nat) (m : Nat) (h : Nat → Heap) (kp : Nat → List (Nat × Nat × Nat)) (j b : Nat) : Bool := !(zjd (fun _ => []) bef m j (h j).next (kp j)).contains b
structure IL [E : Env] (P : Program) (w0 : World) (base : Nat) (ι0 : Inj) (w00 : World) (marks : List Nat) (ops : Array Oper) (bef : Array Nat) (m : Nat) (W : Nat → List Nat) (e : Nat → EV) (h : Nat → Heap) (val : Nat → AV) (kp : Nat → List (Nat × Nat × Nat)) (D : Nat → Bool) (ι : Inj) (w : World) (a : Act) : Prop where
  dm : ∀ i, D i = true → i < m
  dc : ∀ i, D i = true → ∀ j, (bef.getD i 0).testBit j = true → D j = true
  tsz : a.tmps.size = (e 0).n
  tm : ∀ t v, zlc ops (e 0) val D m t = some v → a.tmps[t]? = some (v.conc ι)
  vok : ∀ i, D i = true → (val i).OK w0 base (h (i + 1)).next
  vis : ∀ i, D i = true → (val i).all (seen W bef m h kp i) = true
  dfs : a.defers = marks.map (zir ι)
  ext : ∀ b, b < (h 0).next → ι b = ι0 b
  below : Below base w0 w
  inj : ∀ b b' x x', zgk W ops e h D m b = some x → zgk W ops e h D m b' = some x' → (ι b).1 = (ι b').1 → b = b'
  lob : ∀ b x, zgk W ops e h D m b = some x → base ≤ (ι b).1
  rel : ∀ b x, zgk W ops e h D m b = some x → BlkRel P ι (ι b).2 w.heap[(ι b).1]? x
  bok : ∀ i b x, D i = true → Af W ops e h i b → (h (i + 1)).get b = some x → BlkOK w0 base (h (i + 1)).next x ∧ x.all (seen W bef m h kp i) = true
  size : w00.heap.size ≤ w.heap.size
  frame : ∀ r, r < w00.heap.size → (∀ b x, (h 0).get b = some x → 0 ≤ b → (ι0 b).1 ≠ r) → w.heap[r]? = w00.heap[r]?
  fresh : ∀ b x, zgk W ops e h D m b = some x → (h 0).next ≤ b → w00.heap.size ≤ (ι b).1 ∨ ∃ b0 x0, (h 0).get b0 = some x0 ∧ 0 ≤ b0 ∧ (ι b).1 = (ι0 b0).1
  alive : ∀ b x, zgk W ops e h D m b = some x → b < (h 0).next → ∃ y, (h 0).get b = some y
  keep : ∀ b, b < 0 → zgk W ops e h D m b = (h 0).get b
theorem LT.apart [E : Env] (T : LT P ex ops bef m W e h kp val) {i j b : Nat} (hi : i < m) (hj : j < m) (hDi : D i = false) (hDj : D j = true) (hdc : ∀ q, (bef.getD j 0).testBit q = true → D q = true)
    (h1 : b < (h (j + 1)).next) (h2 : seen W bef m h kp j b = true) : ¬ ((h i).next ≤ b ∧ b < (h (i + 1)).next) := by
  rintro ⟨h3, h4⟩
  by_cases hij : i < j
  · have hb : (bef.getD j 0).testBit i = false := by
      cases hx : (bef.getD j 0).testBit i with
      | false => rfl
      | true => rw [hdc i hx] at hDi; cases hDi
    have hbn : b < (h j).next := by have := T.mono (i + 1) j (by omega) (by omega); omega
    have := yac8 (W := fun _ => []) (m := m) (n := (h j).next) (T.kept j (by omega) i hij (by omega)) hb h3 (by omega) hbn
    simp [seen, hl, this] at h2
  · by_cases hji : j = i
    · subst hji; rw [hDj] at hDi; cases hDi
    · have := T.mono (j + 1) i (by omega) (by omega)
      omega
theorem IL.view [E : Env] (T : LT P ex ops bef m W e h kp val) (hbits : ∀ i j, (bef.getD i 0).testBit j = true → j < i) (I : IL P w0 base ι0 w00 marks ops bef m W e h val kp D ι w a) {i : Nat} (hi : i < m) (hDi : D i = false) (hpre : ∀ j, (bef.getD i 0).testBit j = true → D j = true)
    {b : Nat} (hb : b < (h i).next) (hv : b ∉ hl W bef m h kp i) : zgk W ops e h D m b = (h i).get b := by
  have ho := fun q (hq : q < m) (hne : q ≠ i) (ha : Af W ops e h q b) => T.ordered hi hq hne hb hv ha
  rw [zu9 m (by omega : i ≤ m) (fun j h1 h2 hd ha => by
    have hne : j ≠ i := by rintro rfl; rw [hd] at hDi; cases hDi
    rcases ho j h2 hne ha with k | k
    · have := hbits i j k; omega
    · rw [I.dc j hd i k] at hDi; cases hDi)]
  exact T.blk i (by omega) hb (fun q hq ha => by
    rcases ho q (by omega) (by omega) ha with k | k
    · exact hpre q k
    · have := hbits q i k; omega)
theorem IL.next [E : Env] (T : LT P ex ops bef m W e h kp val) (hr : ze5 ops bef = true) (hbits : ∀ i j, (bef.getD i 0).testBit j = true → j < i) (hOKe : ∀ v ∈ vals (e 0).s, v.OK w0 base (h 0).next) (hOK0 : ∀ b x, (h 0).get b = some x → BlkOK w0 base (h 0).next x ∧ b < (h 0).next)
    (I : IL P w0 base ι0 w00 marks ops bef m W e h val kp D ι w a) (hmk : ∀ b ∈ marks, b < (h 0).next) (hlo : 0 ≤ (h 0).next) {i : Nat} (hi : i < m) (hDi : D i = false) (hpre : ∀ j, (bef.getD i 0).testBit j = true → D j = true)
    {V : Heap} (hVn : V.next = (h (i + 1)).next) (hV : ∀ b, Af W ops e h i b → V.get b = (h (i + 1)).get b) (hVs : ∀ b, b < (h i).next → b ∉ hl W bef m h kp i → ¬ Af W ops e h i b → V.get b = (h i).get b)
    (hvis : (val i).all (seen W bef m h kp i) = true) (hnew : ∀ b x, Af W ops e h i b → (h (i + 1)).get b = some x → x.all (seen W bef m h kp i) = true)
    (hv : (val i).OK w0 base V.next) (hp : Post P w0 base 0 ι (zbw (h i) (hl W bef m h kp i)) w ι1 V w1) :
    ∃ ι', IL P w0 base ι0 w00 marks ops bef m W e h val kp (fun j => if j = i then true else D j) ι' w1 (a.put (zgn ops i) ((val i).conc ι1)) := by
  have hn0 : (h 0).next ≤ (h i).next := T.mono 0 i (by omega) (by omega)
  have hni := T.next hi
  have hk : ∀ b, (zbw (h i) (hl W bef m h kp i)).get b = if b ∈ hl W bef m h kp i then none else (h i).get b := fun b => zbs b _ _
  have hkn : (zbw (h i) (hl W bef m h kp i)).next = (h i).next := zh2 _ _
  have hview : ∀ b x, (zbw (h i) (hl W bef m h kp i)).get b = some x → b < (h i).next → zgk W ops e h D m b = some x ∧ b ∉ hl W bef m h kp i := by
    intro b x hx hb
    rw [hk] at hx
    split at hx
    · cases hx
    · rename_i hnv; exact ⟨by rw [I.view T hbits hi hDi hpre hb hnv]; exact hx, hnv⟩
  have hext : ∀ b, b < (h i).next → ι1 b = ι b := fun b hb => hp.ext b (by rw [hkn]; exact hb)
  have f1 : ∀ b, b < (h (i + 1)).next → (fun b => if (h i).next ≤ b ∧ b < (h (i + 1)).next then ι1 b else ι b : Inj) b = ι1 b := fun b hb => by
    dsimp only
    by_cases hc : (h i).next ≤ b
    · rw [if_pos ⟨hc, hb⟩]
    · rw [if_neg (by omega), hext b (by omega)]
  have f2 : ∀ b, ¬ ((h i).next ≤ b ∧ b < (h (i + 1)).next) → (fun b => if (h i).next ≤ b ∧ b < (h (i + 1)).next then ι1 b else ι b : Inj) b = ι b := fun b hb => by
    dsimp only; rw [if_neg hb]
  generalize hι' : (fun b => if (h i).next ≤ b ∧ b < (h (i + 1)).next then ι1 b else ι b : Inj) = ι' at f1 f2
  have g0 : ∀ b, b < (h 0).next → ι' b = ι b := fun b hb => f2 b (by omega)
  have cv : (val i).conc ι' = (val i).conc ι1 := zeu (fun b hb => f1 b (by omega)) _ hv
  have cj : ∀ j, D j = true → (val j).conc ι' = (val j).conc ι := fun j hj =>
    zhw (p := fun b => decide (b < (h (j + 1)).next) && seen W bef m h kp j b) (fun b hb => by
      simp only [Bool.and_eq_true, decide_eq_true_eq] at hb
      exact f2 b (T.apart hi (I.dm j hj) hDi hj (I.dc j hj) hb.1 hb.2)) _ (all_and _ (all_lt _ (I.vok j hj)) (I.vis j hj))
  have cB : ∀ b x, zgk W ops e h D m b = some x → ∀ cap o, BlkRel P ι cap o x → BlkRel P ι' cap o x := fun b x hL cap o hrel => by
    rcases zfk m hL with ⟨h1, h2⟩ | ⟨j, _, hj, haf, h3⟩
    · exact BlkRel.ext g0 (hOK0 b x h2).1 hrel
    · obtain ⟨k1, k2⟩ := I.bok j b x hj haf h3
      exact BlkRel.all (p := fun b => decide (b < (h (j + 1)).next) && seen W bef m h kp j b) (fun b hb => by
        simp only [Bool.and_eq_true, decide_eq_true_eq] at hb
        exact f2 b (T.apart hi (I.dm j hj) hDi hj (I.dc j hj) hb.1 hb.2)) (Blk.all_and k1.all_lt k2) hrel
  have cAf : ∀ b, Af W ops e h i b → zgk W ops e h (fun j => if j = i then true else D j) m b = (h (i + 1)).get b := fun b haf => by
    rw [zu9 m (by omega : i + 1 ≤ m) (fun j h1 h2 hd ha => by
      have hne : j ≠ i := by omega
      simp only [hne, if_false] at hd
      rcases T.both hi h2 hne haf ha with k | k
      · have := hbits i j k; omega
      · rw [I.dc j hd i k] at hDi; cases hDi)]
    exact zgs (by simp) haf
  have cNo : ∀ b, ¬ Af W ops e h i b → zgk W ops e h (fun j => if j = i then true else D j) m b = zgk W ops e h D m b := fun b hna =>
    zm2 m fun j _ ha => by
      have : j ≠ i := by rintro rfl; exact hna ha
      simp [this]
  have dlt : ∀ b x, zgk W ops e h D m b = some x → ¬ ((h i).next ≤ b ∧ b < (h (i + 1)).next) := fun b x hL => by
    rcases zfk m hL with ⟨h1, _⟩ | ⟨j, hjm, hj, haf, _⟩
    · omega
    · obtain ⟨n1, n2⟩ := T.af hjm haf
      exact T.apart hi hjm hDi hj (I.dc j hj) n2 (by simp only [seen, Bool.not_eq_true', List.contains_eq_mem, decide_eq_false_iff_not]; exact fun q => n1 (yaou q))
  have anew : ∀ b, Af W ops e h i b → b < (h (i + 1)).next ∧ b ∉ hl W bef m h kp i := fun b haf => ⟨(T.af hi haf).2, (T.af hi haf).1⟩
  have hA : ∀ b x, Af W ops e h i b → (h (i + 1)).get b = some x → V.get b = some x ∧ ι' b = ι1 b ∧ ((b < (h i).next ∧ ι1 b = ι b ∧ ∃ y, zgk W ops e h D m b = some y) ∨
      ((h i).next ≤ b ∧ (w.heap.size ≤ (ι1 b).1 ∨ ∃ b0 x0, zgk W ops e h D m b0 = some x0 ∧ b0 < (h i).next ∧ 0 ≤ b0 ∧ (b0 ∉ hl W bef m h kp i ∧ V.get b0 = none) ∧ (ι1 b).1 = (ι b0).1))) := by
    intro b x haf hx
    have hVb : V.get b = some x := by rw [hV b haf]; exact hx
    obtain ⟨hbn, hbh⟩ := anew b haf
    refine ⟨hVb, f1 b hbn, ?_⟩
    by_cases hb : b < (h i).next
    · obtain ⟨y, hy⟩ := hp.alive b x (by rw [hkn]; exact hb) hVb
      exact .inl ⟨hb, hext b hb, y, (hview b y hy hb).1⟩
    · refine .inr ⟨by omega, ?_⟩
      rcases hp.newr b x hVb (by rw [hkn]; omega) with k | ⟨b0, x0, k1, k2, k3⟩
      · exact .inl k
      · have hb0 : b0 < (h i).next := by
          rw [hk] at k1
          split at k1
          · cases k1
          · exact T.lt (fun b x hx => (hOK0 b x hx).2) i (by omega) b0 x0 k1
        obtain ⟨m1, m2⟩ := hview b0 x0 k1 hb0
        refine .inr ⟨b0, x0, m1, hb0, k2, ⟨m2, ?_⟩, by rw [k3]⟩
        cases hVb0 : V.get b0 with
        | none => rfl
        | some y0 =>
          have := hp.sim.inj b b0 x y0 hVb hVb0 (by rw [k3, hext b0 hb0])
          omega
  have hN : ∀ b x, ¬ Af W ops e h i b → zgk W ops e h D m b = some x → ι' b = ι b ∧ BlkRel P ι' (ι b).2 w1.heap[(ι b).1]? x ∧ (b < (h i).next → b ∉ hl W bef m h kp i → V.get b = some x) := by
    intro b x hna hL
    have hd := dlt b x hL
    refine ⟨f2 b hd, ?_, fun hb hnv => ?_⟩
    · by_cases hb : b < (h i).next
      · by_cases hnv : b ∈ hl W bef m h kp i
        · rw [hp.frame _ (yae1 (I.rel b x hL)) fun b2 x2 k1 k2 => ?_]
          · exact cB b x hL _ _ (I.rel b x hL)
          · intro heq
            have hb2 : b2 < (h i).next := by
              rw [hk] at k1
              split at k1
              · cases k1
              · exact T.lt (fun b x hx => (hOK0 b x hx).2) i (by omega) b2 x2 k1
            obtain ⟨m1, m2⟩ := hview b2 x2 k1 hb2
            have := I.inj b2 b x2 x m1 hL heq
            subst this
            exact m2 hnv
        · have hVb : V.get b = some x := by rw [hVs b hb hnv hna, ← I.view T hbits hi hDi hpre hb hnv]; exact hL
          have hrel := hp.sim.rel b x hVb
          have hok := hp.sim.ok b x hVb
          rw [hext b hb] at hrel
          exact BlkRel.ext (fun c hc => f1 c (by omega)) hok hrel
      · rw [hp.frame _ (yae1 (I.rel b x hL)) fun b2 x2 k1 k2 => ?_]
        · exact cB b x hL _ _ (I.rel b x hL)
        · intro heq
          have hb2 : b2 < (h i).next := by
            rw [hk] at k1
            split at k1
            · cases k1
            · exact T.lt (fun b x hx => (hOK0 b x hx).2) i (by omega) b2 x2 k1
          obtain ⟨m1, m2⟩ := hview b2 x2 k1 hb2
          have := I.inj b2 b x2 x m1 hL heq
          omega
    · rw [hVs b hb hnv hna, ← I.view T hbits hi hDi hpre hb hnv]; exact hL
  refine ⟨ι', ⟨?_, ?_, ?_, ?_, ?_, ?_, ?_, ?_, ?_, ?_, ?_, ?_, ?_, ?_, ?_, ?_, ?_, ?_⟩⟩
  · intro j hj; by_cases hji : j = i
    · omega
    · simp only [hji, if_false] at hj; exact I.dm j hj
  · intro j hj q hq
    by_cases hqi : q = i
    · simp [hqi]
    · simp only [hqi, if_false]
      by_cases hji : j = i
      · subst hji; exact hpre q hq
      · simp only [hji, if_false] at hj; exact I.dc j hj q hq
  · cases hd : zgn ops i <;> simp [Act.put, I.tsz]
  · intro t v hv'
    have hbase : ∀ v, zlc ops (e 0) val D m t = some v → v.conc ι' = v.conc ι := fun v hv' => by
      rcases zld (e 0) D t m v hv' with hm | ⟨j, _, hj, rfl⟩
      · exact zeu g0 v (hOKe v hm)
      · exact cj j hj
    by_cases hd : zgn ops i = some t
    · rw [hd]
      by_cases ht : t < (e 0).n
      · have hval : zlc ops (e 0) val (fun j => if j = i then true else D j) m t = some (val i) := by
          rw [yaf7 (ops := ops) (val := val) _ (e 0) t (i + 1) m (by omega) (fun j h1 h2 hj hdj => by
            have hji : j ≠ i := by omega
            simp only [hji, if_false] at hj
            obtain ⟨o, ho, _⟩ := T.step i hi
            obtain ⟨oj, hoj, _⟩ := T.step j h2
            have hdo : o.dst = some t := by simpa [zgn, ho] using hd
            have hdoj : oj.dst = some t := by simpa [zgn, hoj] using hdj
            cases hb1 : (bef.getD i 0).testBit j with
            | true => have := hbits i j hb1; omega
            | false =>
              cases hb2 : (bef.getD j 0).testBit i with
              | true => rw [I.dc j hj i hb2] at hDi; cases hDi
              | false => exact (zkg hr ho hoj (fun q => hji q.symm) hb1 hb2 t hdo).2 hdoj)]
          simp [zlc, hd, ht]
        rw [hval] at hv'
        cases hv'
        simp only [Act.put]
        rw [Array.getElem?_setIfInBounds_self_of_lt (by rw [I.tsz]; exact ht), cv]
      · exfalso
        have hsame : ∀ D' k, zlc ops (e 0) val D' k t = (e 0).look t := fun D' k => by
          induction k with
          | zero => rfl
          | succ k ih => rw [zlc, if_neg (fun q => ht q.2.2)]; exact ih
        rw [hsame] at hv'
        have := I.tm t v (by rw [hsame]; exact hv')
        have := (Array.getElem?_eq_some_iff.1 this).1
        rw [I.tsz] at this
        exact ht this
    · have hsame : zlc ops (e 0) val (fun j => if j = i then true else D j) m t = zlc ops (e 0) val D m t := zkp (e 0) t _ _ m (fun j _ hj => by
        have : j ≠ i := fun q => hd (by rw [← q]; exact hj)
        simp [this])
      rw [hsame] at hv'
      rw [hbase v hv', ← I.tm t v hv']
      cases hd2 : zgn ops i with
      | none => rfl
      | some d2 =>
        simp only [Act.put]
        rw [Array.getElem?_setIfInBounds_ne (fun q => hd (by rw [hd2, q]))]
  · intro j hj
    by_cases hji : j = i
    · subst hji; rw [← hVn]; exact hv
    · simp only [hji, if_false] at hj; exact I.vok j hj
  · intro j hj
    by_cases hji : j = i
    · subst hji; exact hvis
    · simp only [hji, if_false] at hj; exact I.vis j hj
  · have : (a.put (zgn ops i) ((val i).conc ι1)).defers = a.defers := by cases zgn ops i <;> rfl
    rw [this, I.dfs]
    exact List.map_congr_left fun b hb => by simp [zir, g0 b (hmk b hb)]
  · intro b hb; rw [g0 b hb]; exact I.ext b hb
  · exact hp.sim.below
  ·
    have half : ∀ b b' x x', Af W ops e h i b → (h (i + 1)).get b = some x → ¬ Af W ops e h i b' → zgk W ops e h D m b' = some x' → (ι' b).1 = (ι' b').1 → b = b' := by
      intro b b' x x' haf hx hna hL' heq
      obtain ⟨hVb, hib, hc⟩ := hA b x haf hx
      obtain ⟨hib', _, hVs'⟩ := hN b' x' hna hL'
      rw [hib, hib'] at heq
      rcases hc with ⟨h1, h2, y, hy⟩ | ⟨h1, h2 | ⟨b0, x0, h2, h3, h4, h5, h6⟩⟩
      · rw [h2] at heq; exact I.inj b b' y x' hy hL' heq
      · have := yae1 (I.rel b' x' hL'); omega
      · have := I.inj b0 b' x0 x' h2 hL' (by rw [← h6]; exact heq)
        subst this
        have h7 := hVs' h3 h5.1
        rw [h5.2] at h7; cases h7
    intro b b' x x' hL hL' heq
    by_cases ha : Af W ops e h i b <;> by_cases ha' : Af W ops e h i b'
    · rw [cAf b ha] at hL; rw [cAf b' ha'] at hL'
      obtain ⟨k1, k2, _⟩ := hA b x ha hL
      obtain ⟨q1, q2, _⟩ := hA b' x' ha' hL'
      rw [k2, q2] at heq
      exact hp.sim.inj b b' x x' k1 q1 heq
    · rw [cAf b ha] at hL; rw [cNo b' ha'] at hL'
      exact half b b' x x' ha hL ha' hL' heq
    · rw [cNo b ha] at hL; rw [cAf b' ha'] at hL'
      exact (half b' b x' x ha' hL' ha hL heq.symm).symm
    · rw [cNo b ha] at hL; rw [cNo b' ha'] at hL'
      rw [(hN b x ha hL).1, (hN b' x' ha' hL').1] at heq
      exact I.inj b b' x x' hL hL' heq
  · intro b x hL
    by_cases ha : Af W ops e h i b
    · rw [cAf b ha] at hL
      obtain ⟨k1, k2, _⟩ := hA b x ha hL
      rw [k2]; exact hp.sim.lo b x k1
    · rw [cNo b ha] at hL
      rw [(hN b x ha hL).1]; exact I.lob b x hL
  · intro b x hL
    by_cases ha : Af W ops e h i b
    · rw [cAf b ha] at hL
      obtain ⟨k1, k2, _⟩ := hA b x ha hL
      rw [k2]
      exact BlkRel.ext (fun c hc => f1 c (by omega)) (hp.sim.ok b x k1) (hp.sim.rel b x k1)
    · rw [cNo b ha] at hL
      obtain ⟨k1, k2, _⟩ := hN b x ha hL
      rw [k1]; exact k2
  · intro j b x hj haf hx
    by_cases hji : j = i
    · subst hji
      obtain ⟨k1, _⟩ := hA b x haf hx
      exact ⟨by rw [← hVn]; exact hp.sim.ok b x k1, hnew b x haf hx⟩
    · simp only [hji, if_false] at hj; exact I.bok j b x hj haf hx
  · exact Nat.le_trans I.size hp.size
  · intro r hr' hne
    rw [hp.frame r (Nat.lt_of_lt_of_le hr' I.size) fun b x k1 k2 => ?_]
    · exact I.frame r hr' hne
    · have hb2 : b < (h i).next := by
        rw [hk] at k1
        split at k1
        · cases k1
        · exact T.lt (fun b x hx => (hOK0 b x hx).2) i (by omega) b x k1
      obtain ⟨m1, m2⟩ := hview b x k1 hb2
      intro heq
      by_cases hb0 : b < (h 0).next
      · obtain ⟨y, hy⟩ := I.alive b x m1 hb0
        rw [I.ext b hb0] at heq
        exact hne b y hy k2 heq
      · rcases I.fresh b x m1 (by omega) with k | ⟨b0, x0, q1, q2, q3⟩
        · omega
        · rw [q3] at heq; exact hne b0 x0 q1 q2 heq
  · intro b x hL hb
    by_cases ha : Af W ops e h i b
    · rw [cAf b ha] at hL
      obtain ⟨k1, k2, hc⟩ := hA b x ha hL
      rcases hc with ⟨h1, h2, y, hy⟩ | ⟨h1, h2 | ⟨b0, x0, h2, h3, h4, h5, h6⟩⟩
      · rw [k2, h2]; exact I.fresh b y hy hb
      · rw [k2]; exact .inl (Nat.le_trans I.size h2)
      · rw [k2, h6]
        by_cases hb0 : b0 < (h 0).next
        · obtain ⟨y, hy⟩ := I.alive b0 x0 h2 hb0
          exact .inr ⟨b0, y, hy, h4, by rw [I.ext b0 hb0]⟩
        · exact I.fresh b0 x0 h2 (by omega)
    · rw [cNo b ha] at hL
      rw [(hN b x ha hL).1]; exact I.fresh b x hL hb
  · intro b x hL hb
    by_cases ha : Af W ops e h i b
    · rw [cAf b ha] at hL
      obtain ⟨k1, k2, hc⟩ := hA b x ha hL
      rcases hc with ⟨h1, h2, y, hy⟩ | ⟨h1, _⟩
      · exact I.alive b y hy hb
      · omega
    · rw [cNo b ha] at hL; exact I.alive b x hL hb
  · intro b hb
    by_cases ha : Af W ops e h i b
    · obtain ⟨k1, k2⟩ := anew b ha
      have hbi : b < (h i).next := by omega
      rw [cAf b ha, ← hV b ha, hp.keep b hb, hk, if_neg k2, ← I.view T hbits hi hDi hpre hbi k2]
      exact I.keep b hb
    · rw [cNo b ha]; exact I.keep b hb
end
end Go.Ab
