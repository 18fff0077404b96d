/- The abstract interpreter is sound, 16: one quiet operation out of the machine's order. Conditions: none. -/
import Derived.Test.YtlbkcdfllglddaaAb18
set_option linter.unusedSimpArgs false
set_option linter.unusedVariables false
namespace Go.Ab
open Go Go.RowKit
section
variable {P : Program} {w0 : World} {base lo : Nat} {ι ι0 ι1 ι2 : Inj} {H H1 H2 : Heap} {w w00 w1 w2 : World} {ex : ExF}
variable {ops : Array Oper} {bef : Array Nat} {m : Nat} {e : Nat → List AV} {h : Nat → Heap} {kp : Nat → List (Nat × Nat × Nat)} {val : Nat → AV} {marks : List Nat} {D : Nat → Bool} {a : Act}

/-- what carrying out operation i has done -/
structure Did (P : Program) (w0 : World) (base : Nat) (m : Nat) (h : Nat → Heap) (bef : Array Nat) (kp : Nat → List (Nat × Nat × Nat)) (val : Nat → AV) (i : Nat) (ι : Inj) (w : World) (ι1 : Inj) (w1 : World) : Prop where
  vok : (val i).OK w0 base (h (i + 1)).next
  vis : (val i).all (visA (bef.getD i 0) (kp i)) = true
  ext : ∀ b, b < (h i).next → ι1 b = ι b
  below : Below base w0 w1
  size : w.heap.size ≤ w1.heap.size
  frame : ∀ r, r < w.heap.size → w1.heap[r]? = w.heap[r]?
  new : ∀ b x, (h i).next ≤ b → b < (h (i + 1)).next → (h m).get b = some x →
    w.heap.size ≤ (ι1 b).1 ∧ base ≤ (ι1 b).1 ∧ BlkOK w0 base (h (i + 1)).next x ∧ x.all (visA (bef.getD i 0) (kp i)) = true ∧ BlkRel P ι1 (ι1 b).2 w1.heap[(ι1 b).1]? x
  inj : ∀ b b' x x', (h i).next ≤ b → b < (h (i + 1)).next → (h m).get b = some x → (h i).next ≤ b' → b' < (h (i + 1)).next → (h m).get b' = some x' → (ι1 b).1 = (ι1 b').1 → b = b'

theorem Inv.next [E : Env] (T : Trace P ex ops bef m e h kp val) (hr : raceFree ops bef = true) (hbits : ∀ i j, (bef.getD i 0).testBit j = true → j < i) (hOKe : ∀ v ∈ e 0, v.OK w0 base (h 0).next) (hOK0 : ∀ b x, (h 0).get b = some x → BlkOK w0 base (h 0).next x)
    (I : Inv P w0 base ι0 w00 marks ops bef m e h val kp D ι w a) (hmk : ∀ b ∈ marks, b < (h 0).next) {i : Nat} (hi : i < m) (hDi : D i = false) (hpre : ∀ j, (bef.getD i 0).testBit j = true → D j = true) (d : Did P w0 base m h bef kp val i ι w ι1 w1) :
    ∃ ι', Inv P w0 base ι0 w00 marks ops bef m e h val kp (fun j => if j = i then true else D j) ι' w1 (a.put (dstOf ops i) ((val i).conc ι1)) := by
  have hn0 : (h 0).next ≤ (h i).next := (T.mono 0 i (by omega) (by omega)).1
  have hni := (T.one hi).1
  -- the numbering behind
  have f1 : ∀ b, b < (h (i + 1)).next → (fun b => if (h i).next ≤ b ∧ b < (h (i + 1)).next then ι1 b else ι b : Inj) b = ι1 b := fun b hb => by
    dsimp only
    by_cases hc : (h i).next ≤ b
    · rw [if_pos ⟨hc, hb⟩]
    · rw [if_neg (by omega), d.ext b (by omega)]
  have f2 : ∀ b, ¬ ((h i).next ≤ b ∧ b < (h (i + 1)).next) → (fun b => if (h i).next ≤ b ∧ b < (h (i + 1)).next then ι1 b else ι b : Inj) b = ι b := fun b hb => by
    dsimp only; rw [if_neg hb]
  generalize hι' : (fun b => if (h i).next ≤ b ∧ b < (h (i + 1)).next then ι1 b else ι b : Inj) = ι' at f1 f2
  have g0 : ∀ b, b < (h 0).next → ι' b = ι b := fun b hb => f2 b (by omega)
  have cv : (val i).conc ι' = (val i).conc ι1 := conc_ext f1 _ d.vok
  have cj : ∀ j, D j = true → (val j).conc ι' = (val j).conc ι := fun j hj =>
    conc_all (p := fun b => decide (b < (h (j + 1)).next) && visA (bef.getD j 0) (kp j) b) (fun b hb => by
      simp only [Bool.and_eq_true, decide_eq_true_eq] at hb
      exact f2 b (ids_apart T hi (I.dm j hj) hDi hj (I.dc j hj) hb.1 hb.2)) _ (all_and _ (all_lt _ (I.vok j hj)) (I.vis j hj))
  have cB : ∀ j b x, D j = true → (h j).next ≤ b → b < (h (j + 1)).next → (h m).get b = some x → ∀ cap o, BlkRel P ι cap o x → BlkRel P ι' cap o x := fun j b x hj h1 h2 h3 cap o hrel => by
    obtain ⟨k1, k2⟩ := I.bok j b x hj h1 h2 h3
    exact BlkRel.all (p := fun b => decide (b < (h (j + 1)).next) && visA (bef.getD j 0) (kp j) b) (fun b hb => by
      simp only [Bool.and_eq_true, decide_eq_true_eq] at hb
      exact f2 b (ids_apart T hi (I.dm j hj) hDi hj (I.dc j hj) hb.1 hb.2)) (Blk.all_and k1.all_lt k2) hrel
  have live : ∀ b x, Live h m (fun j => if j = i then true else D j) b x → (Live h m D b x ∧ ι' b = ι b ∧ ¬ ((h i).next ≤ b ∧ b < (h (i + 1)).next)) ∨ ((h i).next ≤ b ∧ b < (h (i + 1)).next ∧ (h m).get b = some x ∧ ι' b = ι1 b) := by
    intro b x hL
    rcases hL with ⟨h1, h2⟩ | ⟨j, h1, h2, h3, h4, h5⟩
    · exact .inl ⟨.inl ⟨h1, h2⟩, f2 b (by omega), by omega⟩
    · by_cases hji : j = i
      · subst hji; exact .inr ⟨h3, h4, h5, f1 b h4⟩
      · simp only [hji, if_false] at h2
        have hap : ¬ ((h i).next ≤ b ∧ b < (h (i + 1)).next) := by
          rcases Nat.lt_or_ge j i with hlt | hge
          · have := (T.mono (j + 1) i (by omega) (by omega)).1; omega
          · have := (T.mono (i + 1) j (by omega) (by omega)).1; omega
        exact .inl ⟨.inr ⟨j, h1, h2, h3, h4, h5⟩, f2 b hap, hap⟩
  have liverel : ∀ b x, Live h m D b x → BlkRel P ι' (ι b).2 w.heap[(ι b).1]? x := by
    intro b x hL
    have hrel := I.rel b x hL
    rcases hL with ⟨h1, h2⟩ | ⟨j, h1, h2, h3, h4, h5⟩
    · exact BlkRel.ext g0 (hOK0 b x h2) hrel
    · exact cB j b x h2 h3 h4 h5 _ _ hrel
  refine ⟨ι', ⟨?_, ?_, ?_, ?_, ?_, ?_, ?_, ?_, ?_, ?_, ?_, ?_, ?_, ?_, ?_, ?_⟩⟩
  · intro j hj; by_cases hji : j = i
    · omega
    · simp only [hji, if_false] at hj; exact I.dm j hj
  · intro j hj q hq
    by_cases hqi : q = i
    · simp [hqi]
    · simp only [hqi, if_false]
      by_cases hji : j = i
      · subst hji; exact hpre q hq
      · simp only [hji, if_false] at hj; exact I.dc j hj q hq
  · cases hd : dstOf ops i <;> simp [Act.put, I.tsz]
  · intro t
    have hbase : (valT ops (e 0) val D m t).map (AV.conc ι') = (valT ops (e 0) val D m t).map (AV.conc ι) := by
      cases hv : valT ops (e 0) val D m t with
      | none => rfl
      | some v =>
        simp only [Option.map_some]
        congr 1
        rcases valT_cases (e 0) D t m v hv with hm | ⟨j, _, hj, rfl⟩
        · exact conc_ext g0 v (hOKe v hm)
        · exact cj j hj
    by_cases hd : dstOf ops i = some t
    · rw [hd]
      by_cases ht : t < (e 0).length
      · have hval : valT ops (e 0) val (fun j => if j = i then true else D j) m t = some (val i) := by
          rw [valT_le (ops := ops) (val := val) _ (e 0) t (i + 1) m (by omega) (fun j h1 h2 hj hdj => by
            have hji : j ≠ i := by omega
            simp only [hji, if_false] at hj
            obtain ⟨o, ho, _⟩ := T.step i hi
            obtain ⟨oj, hoj, _⟩ := T.step j h2
            have hdo : o.dst = some t := by simpa [dstOf, ho] using hd
            have hdoj : oj.dst = some t := by simpa [dstOf, hoj] using hdj
            cases hb1 : (bef.getD i 0).testBit j with
            | true => have := hbits i j hb1; omega
            | false =>
              cases hb2 : (bef.getD j 0).testBit i with
              | true => rw [I.dc j hj i hb2] at hDi; cases hDi
              | false => exact (raceFree_spec hr ho hoj (fun q => hji q.symm) hb1 hb2 t hdo).2 hdoj)]
          simp [valT, hd, ht]
        rw [hval]
        simp only [Act.put, Option.map_some]
        rw [Array.getElem?_setIfInBounds_self_of_lt (by rw [I.tsz]; exact ht), cv]
      · have hnone : ∀ D' k, valT ops (e 0) val D' k t = none := fun D' k => by
          induction k with
          | zero => exact List.getElem?_eq_none (Nat.le_of_not_lt ht)
          | succ k ih => rw [valT, if_neg (fun q => ht q.2.2)]; exact ih
        rw [hnone]
        simp only [Act.put, Option.map_none]
        exact Array.getElem?_eq_none (by simp [I.tsz]; omega)
    · have hsame : valT ops (e 0) val (fun j => if j = i then true else D j) m t = valT ops (e 0) val D m t := valT_same (e 0) t _ _ m (fun j _ hj => by
        have : j ≠ i := fun q => hd (by rw [← q]; exact hj)
        simp [this])
      rw [hsame, hbase, ← I.tm t]
      cases hd2 : dstOf ops i with
      | none => rfl
      | some d2 =>
        simp only [Act.put]
        rw [Array.getElem?_setIfInBounds_ne (fun q => hd (by rw [hd2, q]))]
  · intro j hj
    by_cases hji : j = i
    · subst hji; exact d.vok
    · simp only [hji, if_false] at hj; exact I.vok j hj
  · intro j hj
    by_cases hji : j = i
    · subst hji; exact d.vis
    · simp only [hji, if_false] at hj; exact I.vis j hj
  · have : (a.put (dstOf ops i) ((val i).conc ι1)).defers = a.defers := by cases dstOf ops i <;> rfl
    rw [this, I.dfs]
    exact List.map_congr_left fun b hb => by simp [markOf, g0 b (hmk b hb)]
  · intro b hb; rw [g0 b hb]; exact I.ext b hb
  · exact d.below
  · intro b b' x x' hL hL' heq
    rcases live b x hL with ⟨k1, k2, _⟩ | ⟨k1, k2, k3, k4⟩ <;> rcases live b' x' hL' with ⟨q1, q2, _⟩ | ⟨q1, q2, q3, q4⟩
    · rw [k2, q2] at heq; exact I.inj b b' x x' k1 q1 heq
    · rw [k2, q4] at heq
      have := rel_lt (I.rel b x k1); have := (d.new b' x' q1 q2 q3).1; omega
    · rw [k4, q2] at heq
      have := rel_lt (I.rel b' x' q1); have := (d.new b x k1 k2 k3).1; omega
    · rw [k4, q4] at heq; exact d.inj b b' x x' k1 k2 k3 q1 q2 q3 heq
  · intro b x hL
    rcases live b x hL with ⟨k1, k2, _⟩ | ⟨k1, k2, k3, k4⟩
    · rw [k2]; exact I.lo b x k1
    · rw [k4]; exact (d.new b x k1 k2 k3).2.1
  · intro b x hL
    rcases live b x hL with ⟨k1, k2, _⟩ | ⟨k1, k2, k3, k4⟩
    · rw [k2, d.frame _ (rel_lt (I.rel b x k1))]; exact liverel b x k1
    · rw [k4]
      obtain ⟨_, _, k5, _, k6⟩ := d.new b x k1 k2 k3
      exact BlkRel.ext f1 k5 k6
  · intro j b x hj h1 h2 h3
    by_cases hji : j = i
    · subst hji
      obtain ⟨_, _, k5, k6, _⟩ := d.new b x h1 h2 h3
      exact ⟨k5, k6⟩
    · simp only [hji, if_false] at hj; exact I.bok j b x hj h1 h2 h3
  · exact Nat.le_trans I.size d.size
  · intro r hr'; rw [d.frame r (Nat.lt_of_lt_of_le hr' I.size)]; exact I.frame r hr'
  · intro j b x hj h1 h2 h3
    by_cases hji : j = i
    · subst hji
      rw [f1 b h2]
      exact Nat.le_trans I.size (d.new b x h1 h2 h3).1
    · simp only [hji, if_false] at hj
      have hap : ¬ ((h i).next ≤ b ∧ b < (h (i + 1)).next) := by
        have := I.dm j hj
        rcases Nat.lt_or_ge j i with hlt | hge
        · have := (T.mono (j + 1) i (by omega) (by omega)).1; omega
        · have := (T.mono (i + 1) j (by omega) (by omega)).1; omega
      rw [f2 b hap]
      exact I.fresh j b x hj h1 h2 h3
end
end Go.Ab
