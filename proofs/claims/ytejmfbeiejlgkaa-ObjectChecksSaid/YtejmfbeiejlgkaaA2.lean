/- The abstract interpreter is sound, 16: one quiet operation out of the machine's order and what follows. Conditions: in each statement. -/
import Derived.Test.YtejmfbeiejlgkaaA1
import Derived.ChangeShapes
import Derived.ChangeArms
import Derived.OpenShut
import Derived.WideKeyArgs
import Derived.WalkKit
import Derived.ProofKit
import Derived.ShutString
import Derived.ChangeOld
import Derived.SizedLaws
import Derived.Below
/-! The abstract interpreter is sound, 16: one quiet operation out of the machine's order. Conditions: none. -/
set_option linter.unusedSimpArgs false
set_option linter.unusedVariables false
namespace Go.Ab
open Go Go.RowKit
section
variable {P : Program} {w0 : World} {base lo : Nat} {ι ι0 ι1 ι2 : Inj} {H H1 H2 : Heap} {w w00 w1 w2 : World} {ex : ExF}
variable {ops : Array Oper} {bef : Array Nat} {m : Nat} {e : Nat → List AV} {h : Nat → Heap} {kp : Nat → List (Nat × Nat × Nat)} {val : Nat → AV} {marks : List Nat} {D : Nat → Bool} {a : Act}

/-- what carrying out operation i has done -/
structure Did (P : Program) (w0 : World) (base : Nat) (m : Nat) (h : Nat → Heap) (bef : Array Nat) (kp : Nat → List (Nat × Nat × Nat)) (val : Nat → AV) (i : Nat) (ι : Inj) (w : World) (ι1 : Inj) (w1 : World) : Prop where
  vok : (val i).OK w0 base (h (i + 1)).next
  vis : (val i).all (visA (bef.getD i 0) (kp i)) = true
  ext : ∀ b, b < (h i).next → ι1 b = ι b
  below : Below base w0 w1
  size : w.heap.size ≤ w1.heap.size
  frame : ∀ r, r < w.heap.size → w1.heap[r]? = w.heap[r]?
  new : ∀ b x, (h i).next ≤ b → b < (h (i + 1)).next → (h m).get b = some x →
    w.heap.size ≤ (ι1 b).1 ∧ base ≤ (ι1 b).1 ∧ BlkOK w0 base (h (i + 1)).next x ∧ x.all (visA (bef.getD i 0) (kp i)) = true ∧ BlkRel P ι1 (ι1 b).2 w1.heap[(ι1 b).1]? x
  inj : ∀ b b' x x', (h i).next ≤ b → b < (h (i + 1)).next → (h m).get b = some x → (h i).next ≤ b' → b' < (h (i + 1)).next → (h m).get b' = some x' → (ι1 b).1 = (ι1 b').1 → b = b'

theorem Inv.next [E : Env] (T : Trace P ex ops bef m e h kp val) (hr : raceFree ops bef = true) (hbits : ∀ i j, (bef.getD i 0).testBit j = true → j < i) (hOKe : ∀ v ∈ e 0, v.OK w0 base (h 0).next) (hOK0 : ∀ b x, (h 0).get b = some x → BlkOK w0 base (h 0).next x)
    (I : Inv P w0 base ι0 w00 marks ops bef m e h val kp D ι w a) (hmk : ∀ b ∈ marks, b < (h 0).next) {i : Nat} (hi : i < m) (hDi : D i = false) (hpre : ∀ j, (bef.getD i 0).testBit j = true → D j = true) (d : Did P w0 base m h bef kp val i ι w ι1 w1) :
    ∃ ι', Inv P w0 base ι0 w00 marks ops bef m e h val kp (fun j => if j = i then true else D j) ι' w1 (a.put (dstOf ops i) ((val i).conc ι1)) := by
  have hn0 : (h 0).next ≤ (h i).next := (T.mono 0 i (by omega) (by omega)).1
  have hni := (T.one hi).1
  -- the numbering behind
  have f1 : ∀ b, b < (h (i + 1)).next → (fun b => if (h i).next ≤ b ∧ b < (h (i + 1)).next then ι1 b else ι b : Inj) b = ι1 b := fun b hb => by
    dsimp only
    by_cases hc : (h i).next ≤ b
    · rw [if_pos ⟨hc, hb⟩]
    · rw [if_neg (by omega), d.ext b (by omega)]
  have f2 : ∀ b, ¬ ((h i).next ≤ b ∧ b < (h (i + 1)).next) → (fun b => if (h i).next ≤ b ∧ b < (h (i + 1)).next then ι1 b else ι b : Inj) b = ι b := fun b hb => by
    dsimp only; rw [if_neg hb]
  generalize hι' : (fun b => if (h i).next ≤ b ∧ b < (h (i + 1)).next then ι1 b else ι b : Inj) = ι' at f1 f2
  have g0 : ∀ b, b < (h 0).next → ι' b = ι b := fun b hb => f2 b (by omega)
  have cv : (val i).conc ι' = (val i).conc ι1 := conc_ext f1 _ d.vok
  have cj : ∀ j, D j = true → (val j).conc ι' = (val j).conc ι := fun j hj =>
    conc_all (p := fun b => decide (b < (h (j + 1)).next) && visA (bef.getD j 0) (kp j) b) (fun b hb => by
      simp only [Bool.and_eq_true, decide_eq_true_eq] at hb
      exact f2 b (ids_apart T hi (I.dm j hj) hDi hj (I.dc j hj) hb.1 hb.2)) _ (all_and _ (all_lt _ (I.vok j hj)) (I.vis j hj))
  have cB : ∀ j b x, D j = true → (h j).next ≤ b → b < (h (j + 1)).next → (h m).get b = some x → ∀ cap o, BlkRel P ι cap o x → BlkRel P ι' cap o x := fun j b x hj h1 h2 h3 cap o hrel => by
    obtain ⟨k1, k2⟩ := I.bok j b x hj h1 h2 h3
    exact BlkRel.all (p := fun b => decide (b < (h (j + 1)).next) && visA (bef.getD j 0) (kp j) b) (fun b hb => by
      simp only [Bool.and_eq_true, decide_eq_true_eq] at hb
      exact f2 b (ids_apart T hi (I.dm j hj) hDi hj (I.dc j hj) hb.1 hb.2)) (Blk.all_and k1.all_lt k2) hrel
  have live : ∀ b x, Live h m (fun j => if j = i then true else D j) b x → (Live h m D b x ∧ ι' b = ι b ∧ ¬ ((h i).next ≤ b ∧ b < (h (i + 1)).next)) ∨ ((h i).next ≤ b ∧ b < (h (i + 1)).next ∧ (h m).get b = some x ∧ ι' b = ι1 b) := by
    intro b x hL
    rcases hL with ⟨h1, h2⟩ | ⟨j, h1, h2, h3, h4, h5⟩
    · exact .inl ⟨.inl ⟨h1, h2⟩, f2 b (by omega), by omega⟩
    · by_cases hji : j = i
      · subst hji; exact .inr ⟨h3, h4, h5, f1 b h4⟩
      · simp only [hji, if_false] at h2
        have hap : ¬ ((h i).next ≤ b ∧ b < (h (i + 1)).next) := by
          rcases Nat.lt_or_ge j i with hlt | hge
          · have := (T.mono (j + 1) i (by omega) (by omega)).1; omega
          · have := (T.mono (i + 1) j (by omega) (by omega)).1; omega
        exact .inl ⟨.inr ⟨j, h1, h2, h3, h4, h5⟩, f2 b hap, hap⟩
  have liverel : ∀ b x, Live h m D b x → BlkRel P ι' (ι b).2 w.heap[(ι b).1]? x := by
    intro b x hL
    have hrel := I.rel b x hL
    rcases hL with ⟨h1, h2⟩ | ⟨j, h1, h2, h3, h4, h5⟩
    · exact BlkRel.ext g0 (hOK0 b x h2) hrel
    · exact cB j b x h2 h3 h4 h5 _ _ hrel
  refine ⟨ι', ⟨?_, ?_, ?_, ?_, ?_, ?_, ?_, ?_, ?_, ?_, ?_, ?_, ?_, ?_, ?_, ?_⟩⟩
  · intro j hj; by_cases hji : j = i
    · omega
    · simp only [hji, if_false] at hj; exact I.dm j hj
  · intro j hj q hq
    by_cases hqi : q = i
    · simp [hqi]
    · simp only [hqi, if_false]
      by_cases hji : j = i
      · subst hji; exact hpre q hq
      · simp only [hji, if_false] at hj; exact I.dc j hj q hq
  · cases hd : dstOf ops i <;> simp [Act.put, I.tsz]
  · intro t
    have hbase : (valT ops (e 0) val D m t).map (AV.conc ι') = (valT ops (e 0) val D m t).map (AV.conc ι) := by
      cases hv : valT ops (e 0) val D m t with
      | none => rfl
      | some v =>
        simp only [Option.map_some]
        congr 1
        rcases valT_cases (e 0) D t m v hv with hm | ⟨j, _, hj, rfl⟩
        · exact conc_ext g0 v (hOKe v hm)
        · exact cj j hj
    by_cases hd : dstOf ops i = some t
    · rw [hd]
      by_cases ht : t < (e 0).length
      · have hval : valT ops (e 0) val (fun j => if j = i then true else D j) m t = some (val i) := by
          rw [valT_le (ops := ops) (val := val) _ (e 0) t (i + 1) m (by omega) (fun j h1 h2 hj hdj => by
            have hji : j ≠ i := by omega
            simp only [hji, if_false] at hj
            obtain ⟨o, ho, _⟩ := T.step i hi
            obtain ⟨oj, hoj, _⟩ := T.step j h2
            have hdo : o.dst = some t := by simpa [dstOf, ho] using hd
            have hdoj : oj.dst = some t := by simpa [dstOf, hoj] using hdj
            cases hb1 : (bef.getD i 0).testBit j with
            | true => have := hbits i j hb1; omega
            | false =>
              cases hb2 : (bef.getD j 0).testBit i with
              | true => rw [I.dc j hj i hb2] at hDi; cases hDi
              | false => exact (raceFree_spec hr ho hoj (fun q => hji q.symm) hb1 hb2 t hdo).2 hdoj)]
          simp [valT, hd, ht]
        rw [hval]
        simp only [Act.put, Option.map_some]
        rw [Array.getElem?_setIfInBounds_self_of_lt (by rw [I.tsz]; exact ht), cv]
      · have hnone : ∀ D' k, valT ops (e 0) val D' k t = none := fun D' k => by
          induction k with
          | zero => exact List.getElem?_eq_none (Nat.le_of_not_lt ht)
          | succ k ih => rw [valT, if_neg (fun q => ht q.2.2)]; exact ih
        rw [hnone]
        simp only [Act.put, Option.map_none]
        exact Array.getElem?_eq_none (by simp [I.tsz]; omega)
    · have hsame : valT ops (e 0) val (fun j => if j = i then true else D j) m t = valT ops (e 0) val D m t := valT_same (e 0) t _ _ m (fun j _ hj => by
        have : j ≠ i := fun q => hd (by rw [← q]; exact hj)
        simp [this])
      rw [hsame, hbase, ← I.tm t]
      cases hd2 : dstOf ops i with
      | none => rfl
      | some d2 =>
        simp only [Act.put]
        rw [Array.getElem?_setIfInBounds_ne (fun q => hd (by rw [hd2, q]))]
  · intro j hj
    by_cases hji : j = i
    · subst hji; exact d.vok
    · simp only [hji, if_false] at hj; exact I.vok j hj
  · intro j hj
    by_cases hji : j = i
    · subst hji; exact d.vis
    · simp only [hji, if_false] at hj; exact I.vis j hj
  · have : (a.put (dstOf ops i) ((val i).conc ι1)).defers = a.defers := by cases dstOf ops i <;> rfl
    rw [this, I.dfs]
    exact List.map_congr_left fun b hb => by simp [markOf, g0 b (hmk b hb)]
  · intro b hb; rw [g0 b hb]; exact I.ext b hb
  · exact d.below
  · intro b b' x x' hL hL' heq
    rcases live b x hL with ⟨k1, k2, _⟩ | ⟨k1, k2, k3, k4⟩ <;> rcases live b' x' hL' with ⟨q1, q2, _⟩ | ⟨q1, q2, q3, q4⟩
    · rw [k2, q2] at heq; exact I.inj b b' x x' k1 q1 heq
    · rw [k2, q4] at heq
      have := rel_lt (I.rel b x k1); have := (d.new b' x' q1 q2 q3).1; omega
    · rw [k4, q2] at heq
      have := rel_lt (I.rel b' x' q1); have := (d.new b x k1 k2 k3).1; omega
    · rw [k4, q4] at heq; exact d.inj b b' x x' k1 k2 k3 q1 q2 q3 heq
  · intro b x hL
    rcases live b x hL with ⟨k1, k2, _⟩ | ⟨k1, k2, k3, k4⟩
    · rw [k2]; exact I.lo b x k1
    · rw [k4]; exact (d.new b x k1 k2 k3).2.1
  · intro b x hL
    rcases live b x hL with ⟨k1, k2, _⟩ | ⟨k1, k2, k3, k4⟩
    · rw [k2, d.frame _ (rel_lt (I.rel b x k1))]; exact liverel b x k1
    · rw [k4]
      obtain ⟨_, _, k5, _, k6⟩ := d.new b x k1 k2 k3
      exact BlkRel.ext f1 k5 k6
  · intro j b x hj h1 h2 h3
    by_cases hji : j = i
    · subst hji
      obtain ⟨_, _, k5, k6, _⟩ := d.new b x h1 h2 h3
      exact ⟨k5, k6⟩
    · simp only [hji, if_false] at hj; exact I.bok j b x hj h1 h2 h3
  · exact Nat.le_trans I.size d.size
  · intro r hr'; rw [d.frame r (Nat.lt_of_lt_of_le hr' I.size)]; exact I.frame r hr'
  · intro j b x hj h1 h2 h3
    by_cases hji : j = i
    · subst hji
      rw [f1 b h2]
      exact Nat.le_trans I.size (d.new b x h1 h2 h3).1
    · simp only [hji, if_false] at hj
      have hap : ¬ ((h i).next ≤ b ∧ b < (h (i + 1)).next) := by
        have := I.dm j hj
        rcases Nat.lt_or_ge j i with hlt | hge
        · have := (T.mono (j + 1) i (by omega) (by omega)).1; omega
        · have := (T.mono (i + 1) j (by omega) (by omega)).1; omega
      rw [f2 b hap]
      exact I.fresh j b x hj h1 h2 h3
end
end Go.Ab
/-! The abstract interpreter is sound, 17: regions whose order is open, whole. Conditions: none. -/
set_option linter.unusedSimpArgs false
set_option linter.unusedVariables false
namespace Go.Ab
open Go Go.RowKit
section
variable {P : Program} {w0 : World} {base lo : Nat} {ι ι0 ι1 ι2 : Inj} {H H1 H2 : Heap} {w w00 w1 w2 : World} {ex : ExF}
variable {ops : Array Oper} {bef : Array Nat} {m : Nat} {e : Nat → List AV} {h : Nat → Heap} {kp : Nat → List (Nat × Nat × Nat)} {val : Nat → AV} {marks : List Nat} {D : Nat → Bool} {a : Act}

theorem Trace.lt [E : Env] (T : Trace P ex ops bef m e h kp val) (h0 : ∀ b x, (h 0).get b = some x → b < (h 0).next) : ∀ j, j ≤ m → ∀ b x, (h j).get b = some x → b < (h j).next
  | 0, _ => h0
  | j + 1, hj => by
    intro b x hx
    have ih := Trace.lt T h0 j (by omega)
    obtain ⟨o, ho, hq, _⟩ := T.step j (by omega)
    rcases hq with ⟨_, _, h1, h2⟩ | ⟨_, hf, hop, _, _, h2⟩ | ⟨_, K, hop, _, ⟨h1, h2, _⟩ | ⟨_, h1, h2⟩⟩
    · rw [h1] at hx ⊢; exact ih b x hx
    · rcases heapFree_indep hf hop (h j) rfl with ⟨h1, _⟩ | ⟨y, h1, _⟩
      · rw [h1] at hx ⊢; exact ih b x hx
      · rw [h1] at hx ⊢
        rw [Heap.get_push] at hx
        split at hx
        · rename_i hb; simp; omega
        · have := ih b x hx; simp; omega
    · rw [h1] at hx ⊢; exact ih b x hx
    · rw [h1] at hx ⊢
      rw [growH_get] at hx
      split at hx
      · rename_i hb; simp only [growH]; omega
      · have := ih b x hx; simp only [growH]; omega

/-- what operation i reads is as the interpreter has it -/
theorem Inv.needs [E : Env] (T : Trace P ex ops bef m e h kp val) (hr : raceFree ops bef = true) (hbits : ∀ i j, (bef.getD i 0).testBit j = true → j < i) (hOKe : ∀ v ∈ e 0, v.OK w0 base (h 0).next)
    (I : Inv P w0 base ι0 w00 marks ops bef m e h val kp D ι w a) {i : Nat} (hi : i < m) (hDi : D i = false) (hpre : ∀ j, (bef.getD i 0).testBit j = true → D j = true) {o : Oper} (ho : ops[i]? = some o) :
    ∀ t ∈ needs ops o, a.tmps[t]? = ((e i)[t]?).map (AV.conc ι) ∧ ∀ v, (e i)[t]? = some v → v.OK w0 base (h i).next := by
  intro t ht
  have W : ∀ j, j < m → j ≠ i → dstOf ops j = some t → (bef.getD i 0).testBit j = true ∨ (bef.getD j 0).testBit i = true := by
    intro j hj hne hd
    obtain ⟨oj, hoj, _⟩ := T.step j hj
    have hdoj : oj.dst = some t := by simpa [dstOf, hoj] using hd
    cases hb1 : (bef.getD i 0).testBit j with
    | true => exact .inl rfl
    | false =>
      cases hb2 : (bef.getD j 0).testBit i with
      | true => exact .inr rfl
      | false => exact absurd ht (raceFree_spec hr hoj ho hne hb2 hb1 t hdoj).1
  have v1 : valT ops (e 0) val D m t = valT ops (e 0) val D i t := valT_le D (e 0) t i m (by omega) (fun j h1 h2 hj hd => by
    have hji : j ≠ i := fun q => by rw [q, hDi] at hj; cases hj
    rcases W j h2 hji hd with hb | hb
    · have := hbits i j hb; omega
    · rw [I.dc j hj i hb] at hDi; cases hDi)
  have v2 : valT ops (e 0) val D i t = valT ops (e 0) val (fun _ => true) i t := valT_same (e 0) t _ _ i (fun j hj hd => by
    rcases W j (by omega) (by omega) hd with hb | hb
    · exact hpre j hb
    · have := hbits j i hb; omega)
  have he := (T.env i (by omega)).2 t
  refine ⟨by rw [I.tm t, v1, v2, he], fun v hv => ?_⟩
  rw [he, ← v2] at hv
  rcases valT_cases (e 0) D t i v hv with hm | ⟨j, h1, h2, rfl⟩
  · exact OK.mono (T.mono 0 i (by omega) (by omega)).1 v (hOKe v hm)
  · exact OK.mono (T.mono (j + 1) i (by omega) (by omega)).1 _ (I.vok j h2)

theorem Inv.step [E : Env] (hN : Names P) (hS : Sound P w0 base ex) (hb : base ≤ w0.heap.size) (gl : GlobOK w0 base) (T : Trace P ex ops bef m e h kp val) (hr : raceFree ops bef = true) (hbits : ∀ i j, (bef.getD i 0).testBit j = true → j < i) (hOKe : ∀ v ∈ e 0, v.OK w0 base (h 0).next)
    (hOK0 : ∀ b x, (h 0).get b = some x → BlkOK w0 base (h 0).next x ∧ b < (h 0).next)
    (I : Inv P w0 base ι0 w00 marks ops bef m e h val kp D ι w a) (hmk : ∀ b ∈ marks, b < (h 0).next) {i : Nat} (hi : i < m) (hDi : D i = false) (hpre : ∀ j, (bef.getD i 0).testBit j = true → D j = true) (c : RC) (rest : List Nat) (k : List Item) (cs : List Frame) :
    ∃ ι' w' a', Inv P w0 base ι0 w00 marks ops bef m e h val kp (fun j => if j = i then true else D j) ι' w' a' ∧ Steps P (lone (F c a (.inRegion ops (i :: rest) :: k)) cs w) (lone (F c a' (.inRegion ops rest :: k)) cs w') := by
  obtain ⟨o, ho, hq, he⟩ := T.step i hi
  have hneeds := I.needs T hr hbits hOKe hi hDi hpre ho
  have hdst : dstOf ops i = o.dst := by simp [dstOf, ho]
  have hev : ∀ x ∈ o.op.operands, Ev w0 base (h i).next ι (e i) a.eval x := by
    intro x hx v hv
    cases x with
    | tmp t =>
      obtain ⟨h1, h2⟩ := hneeds t (List.mem_append.2 (.inl (List.mem_filterMap.2 ⟨.tmp t, by simpa using hx, rfl⟩)))
      simp only [evalO, Option.some.injEq] at hv
      subst hv
      simp only [Act.eval]
      cases ht : (e i)[t]? with
      | none => rw [ht] at h1; simp at h1; simp [List.getD, ht, h1, undef_conc, undefA, AV.OK, AV.OKL]; simp [AV.conc, AV.concL, undef]
      | some u => rw [ht] at h1; simp [List.getD, ht, h1]; exact h2 u ht
    | const v' => exact ⟨(ofVal_conc ι hv).symm, OK.mono (Nat.zero_le _) v (ofVal_OK hv)⟩
    | global g =>
      obtain ⟨h1, h2⟩ := gl g v hv
      exact ⟨(h2 ι).symm, OK.mono (Nat.zero_le _) v h1⟩
    | func f => simp only [evalO, Option.some.injEq] at hv; subst hv; simp [Act.eval, AV.conc, AV.concL, AV.OK, AV.OKL]
  have hwant : Region.wanted o (yielded ops a.tmps) = Region.wanted o (yieldedA ops (e i)) := by
    unfold Region.wanted
    cases hg : o.guard with
    | none => rfl
    | some g =>
      obtain ⟨j0, want⟩ := g
      simp only
      have : yielded ops a.tmps j0 = yieldedA ops (e i) j0 := by
        unfold yielded yieldedA
        cases hd : (ops[j0]?).bind (·.dst) with
        | none => rfl
        | some t =>
          obtain ⟨h1, _⟩ := hneeds t (List.mem_append.2 (.inr (by rw [hg]; simp [hd])))
          simp only [Option.bind_some, h1]
          cases ht : (e i)[t]? with
          | none => rfl
          | some v =>
            simp only [Option.map_some]
            cases v <;> try rfl
            rename_i b; cases b <;> rfl
      rw [this]
  have hm1 : ∀ b, b < (h (i + 1)).next → (h m).get b = (h (i + 1)).get b := (T.mono (i + 1) m (by omega) (Nat.le_refl _)).2
  have fin : ∀ (ι1 : Inj) (w1 : World), Did P w0 base m h bef kp val i ι w ι1 w1 → Steps P (lone (F c a (.inRegion ops (i :: rest) :: k)) cs w) (lone (F c (a.put o.dst ((val i).conc ι1)) (.inRegion ops rest :: k)) cs w1) →
      ∃ ι' w' a', Inv P w0 base ι0 w00 marks ops bef m e h val kp (fun j => if j = i then true else D j) ι' w' a' ∧ Steps P (lone (F c a (.inRegion ops (i :: rest) :: k)) cs w) (lone (F c a' (.inRegion ops rest :: k)) cs w') := by
    intro ι1 w1 d hst
    obtain ⟨ι', hI⟩ := I.next T hr hbits hOKe (fun b x hx => (hOK0 b x hx).1) hmk hi hDi hpre d
    rw [hdst] at hI
    exact ⟨ι', w1, _, hI, hst⟩
  -- an operation that is carried out on some heap of what is there
  have exec : ∀ (V V' : Heap), V.next = (h i).next → (∀ b x, V.get b = some x → Live h m D b x ∧ b < (h i).next ∧ BlkOK w0 base (h i).next x) → opA P ex (h i).next (e i) V o = some (val i, V') → Region.wanted o (yieldedA ops (e i)) = true →
      (val i).all (visA (bef.getD i 0) (kp i)) = true →
      ((h (i + 1)).next = V'.next ∨ (V.next ≤ V'.next → (h (i + 1)).next = V'.next) ∨ ((h (i + 1)).next = (h i).next ∧ ((val i).rf = true ∨ V' = V))) →
      (∀ b x, (h i).next ≤ b → b < (h (i + 1)).next → (h (i + 1)).get b = some x → V'.get b = some x ∧ x.all (visA (bef.getD i 0) (kp i)) = true) →
      ∃ ι' w' a', Inv P w0 base ι0 w00 marks ops bef m e h val kp (fun j => if j = i then true else D j) ι' w' a' ∧ Steps P (lone (F c a (.inRegion ops (i :: rest) :: k)) cs w) (lone (F c a' (.inRegion ops rest :: k)) cs w') := by
    intro V V' hVn hV hop hw hvis hnx hnew
    have sV : Sim P w0 base ι V w :=
      { below := I.below, hb := hb, gl := gl, inj := fun b b' x x' hx hx' => I.inj b b' x x' (hV b x hx).1 (hV b' x' hx').1, lt := fun b x hx => by rw [hVn]; exact (hV b x hx).2.1,
        lo := fun b x hx => I.lo b x (hV b x hx).1, ok := fun b x hx => by rw [hVn]; exact (hV b x hx).2.2, rel := fun b x hx => I.rel b x (hV b x hx).1 }
    obtain ⟨ι1, w1, hp, hv, hst⟩ := opA_sound hN hS sV hop (by omega) c a (fun x hx => by rw [hVn]; exact hev x hx) ho (by rw [hwant]; exact hw) rest k cs
    have hnx' : (h (i + 1)).next = V'.next ∨ ((h (i + 1)).next = (h i).next ∧ ((val i).rf = true ∨ V' = V)) := by
      rcases hnx with h1 | h1 | h1
      · exact .inl h1
      · exact .inl (h1 hp.next)
      · exact .inr h1
    have hvok : (val i).OK w0 base (h (i + 1)).next := by
      rcases hnx' with h1 | ⟨h1, h2 | h2⟩
      · rw [h1]; exact hv
      · exact OK.mono (Nat.zero_le _) _ (OK.rf _ h2 hv)
      · rw [h1, ← hVn, ← h2]; exact hv
    have hfrm : ∀ r, r < w.heap.size → w1.heap[r]? = w.heap[r]? := fun r hr' => hp.frame r hr' fun b x hx hl => by have := (hV b x hx).2.1; omega
    have hnewF : ∀ b x, (h i).next ≤ b → b < (h (i + 1)).next → (h m).get b = some x → V'.get b = some x ∧ x.all (visA (bef.getD i 0) (kp i)) = true ∧ w.heap.size ≤ (ι1 b).1 := by
      intro b x h1 h2 h3
      rw [hm1 b h2] at h3
      obtain ⟨h4, h5⟩ := hnew b x h1 h2 h3
      refine ⟨h4, h5, ?_⟩
      rcases hp.newr b x h4 (by omega) with h6 | ⟨b0, x0, h7, h8, _⟩
      · exact h6
      · have := (hV b0 x0 h7).2.1; omega
    refine fin ι1 w1 ⟨hvok, hvis, fun b hb' => hp.ext b (by omega), hp.sim.below, hp.size, hfrm, fun b x h1 h2 h3 => ?_, fun b b' x x' h1 h2 h3 h1' h2' h3' heq => ?_⟩ hst
    · obtain ⟨h4, h5, h6⟩ := hnewF b x h1 h2 h3
      refine ⟨h6, hp.sim.lo b x h4, ?_, h5, hp.sim.rel b x h4⟩
      rcases hnx' with h7 | ⟨h7, _⟩
      · rw [h7]; exact hp.sim.ok b x h4
      · omega
    · exact hp.sim.inj b b' x x' (hnewF b x h1 h2 h3).1 (hnewF b' x' h1' h2' h3').1 heq
  rcases hq with ⟨hw, hv, h1, h2⟩ | ⟨hw, hf, hop, hvis, hnk, h2⟩ | ⟨hw, K, hop, hvis, hcase⟩
  · -- not wanted
    have hsk := st_opSkip (P := P) (c := c) (a := a) (k := k) (cs := cs) (w := w) (ops := ops) (i := i) (rest := rest) (by rw [ho]; simp [hwant, hw])
    rw [ho] at hsk
    simp only [Option.bind_some] at hsk
    have hnx : (h (i + 1)).next = (h i).next := by rw [h1]
    refine fin ι w ⟨?_, ?_, fun _ _ => rfl, I.below, Nat.le_refl _, fun _ _ => rfl, fun b x q1 q2 _ => by omega, fun b b' x x' q1 q2 => by omega⟩ ?_
    · rw [hv]; simp [undefA, AV.OK, AV.OKL]
    · rw [hv]; simp [undefA, AV.all, AV.allL]
    · rw [hv, undef_conc]; exact .one hsk
  · -- free of the heap
    rcases heapFree_indep hf hop ⟨(h i).next, .leaf⟩ rfl with ⟨h3, h4⟩ | ⟨x, h3, h4⟩
    · refine exec ⟨(h i).next, .leaf⟩ _ rfl (fun b x hx => by have hn : (⟨(h i).next, .leaf⟩ : Heap).get b = none := rfl; rw [hn] at hx; cases hx) h4 hw hvis (.inl (by rw [h3])) (fun b x q1 q2 _ => by rw [h3] at q2; omega)
    · refine exec ⟨(h i).next, .leaf⟩ _ rfl (fun b x hx => by have hn : (⟨(h i).next, .leaf⟩ : Heap).get b = none := rfl; rw [hn] at hx; cases hx) h4 hw hvis (.inl (by rw [h3]; rfl)) (fun b y q1 q2 q3 => ?_)
      rw [h3] at q2 q3
      simp only [Heap.next_push] at q2
      have hbe : b = (h i).next := by omega
      rw [Heap.get_push, if_pos hbe] at q3
      refine ⟨by rw [Heap.get_push, if_pos hbe]; exact q3, ?_⟩
      have := List.all_eq_true.1 hnk 0 (List.mem_range.2 (by rw [h3]; simp))
      rw [h3, Nat.add_zero, Heap.get_push, if_pos rfl] at this
      cases q3
      exact this
  · -- on the view
    have hVn := viewA_next (bef.getD i 0) (kp i) (h i)
    obtain ⟨hk1, hk2⟩ := T.kept i (by omega)
    have hV : ∀ b x, (viewA (h i) (bef.getD i 0) (kp i)).get b = some x → Live h m D b x ∧ b < (h i).next ∧ BlkOK w0 base (h i).next x := by
      intro b x hx
      obtain ⟨h3, h4⟩ := viewA_get _ _ _ b x hx
      by_cases hb0 : b < (h 0).next
      · have h5 : (h 0).get b = some x := by rw [← (T.mono 0 i (by omega) (by omega)).2 b hb0]; exact h3
        have := (T.mono 0 i (by omega) (by omega)).1
        exact ⟨.inl ⟨hb0, h5⟩, by omega, (hOK0 b x h5).1.mono this⟩
      · -- whose is it?
        have hown : ∀ q, q ≤ i → (h 0).next ≤ b → (h q).get b = some x → ∃ j, j < q ∧ (h j).next ≤ b ∧ b < (h (j + 1)).next := by
          intro q
          induction q with
          | zero => intro _ h6 h7; have := (hOK0 b x h7).2; omega
          | succ q ih =>
            intro hq h6 h7
            by_cases h8 : b < (h q).next
            · rw [(T.one (j := q) (by omega)).2.1 b h8] at h7
              obtain ⟨j, h9, h10⟩ := ih (by omega) h6 h7
              exact ⟨j, by omega, h10⟩
            · refine ⟨q, by omega, by omega, ?_⟩
              exact T.lt (fun b x hx => (hOK0 b x hx).2) (q + 1) (by omega) b x h7
        obtain ⟨j, h6, h7, h8⟩ := hown i (Nat.le_refl _) (by omega) h3
        obtain ⟨q, hq, hqj⟩ := hk2 j h6 (by omega)
        obtain ⟨_, h9, h10⟩ := hk1 q hq
        rw [hqj] at h9 h10
        have hDj : D j = true := by
          cases hbit : (bef.getD i 0).testBit j with
          | true => exact hpre j hbit
          | false => exact absurd ⟨by omega, by omega⟩ (h4 q hq (by rw [hqj]; exact hbit))
        have hmi := (T.mono i m (by omega) (Nat.le_refl _)).2 b (by have := (T.mono (j + 1) i (by omega) (by omega)).1; omega)
        have hbl : b < (h i).next := by have := (T.mono (j + 1) i (by omega) (by omega)).1; omega
        refine ⟨.inr ⟨j, by omega, hDj, h7, h8, by rw [hmi]; exact h3⟩, hbl, ?_⟩
        exact (I.bok j b x hDj h7 h8 (by rw [hmi]; exact h3)).1.mono (T.mono (j + 1) i (by omega) (by omega)).1
    rcases hcase with ⟨h1, h2, h3⟩ | ⟨hnk, h1, h2⟩
    · refine exec _ K hVn hV hop hw hvis (.inr (.inr ⟨by rw [h1], ?_⟩)) (fun b x q1 q2 _ => by rw [h1] at q2; omega)
      rcases h3 with h3 | h3
      · exact .inr (onlyReads_heap h3 hop)
      · exact .inl h3
    · refine exec _ K hVn hV hop hw hvis (.inr (.inl (fun hle => by rw [h1]; simp only [growH]; omega))) (fun b x q1 q2 q3 => ?_)
      rw [h1] at q2 q3
      simp only [growH] at q2
      rw [growH_get, if_pos ⟨q1, q2⟩] at q3
      refine ⟨q3, ?_⟩
      have := List.all_eq_true.1 hnk (b - (h i).next) (List.mem_range.2 (by omega))
      rw [show (h i).next + (b - (h i).next) = b by omega, q3] at this
      exact this
end
end Go.Ab
/-! The abstract interpreter is sound, 20: operations that change what is there, in an open order, 1: the trace; contents of blocks. Conditions: none. -/
set_option linter.unusedSimpArgs false
set_option linter.unusedVariables false
namespace Go.Ab
open Go Go.RowKit

theorem killL_get (b : Nat) : ∀ (l : List Nat) (H : Heap), (killL H l).get b = if b ∈ l then none else H.get b
  | [], H => by simp [killL]
  | c :: l, H => by
    rw [killL, killL_get b l, Heap.get_kill]
    by_cases h1 : b ∈ l
    · simp [h1]
    · by_cases h2 : b = c <;> simp [h1, h2]
theorem killL_next : ∀ (l : List Nat) (H : Heap), (killL H l).next = H.next
  | [], _ => rfl
  | c :: l, H => by rw [killL, killL_next l]; rfl
theorem putL_get (K : Heap) (b : Nat) : ∀ (l : List Nat) (H : Heap), (putL H K l).get b = if b ∈ l then K.get b else H.get b
  | [], H => by simp [putL]
  | c :: l, H => by
    rw [putL, putL_get K b l, Heap.get_setO]
    by_cases h1 : b ∈ l
    · simp [h1]
    · by_cases h2 : b = c
      · subst h2; simp [h1]
      · simp [h1, h2]
theorem putL_next (K : Heap) : ∀ (l : List Nat) (H : Heap), (putL H K l).next = H.next
  | [], _ => rfl
  | c :: l, H => by rw [putL, putL_next K l]; rfl

/-- one operation, as the interpreter takes it -/
def LS [E : Env] (P : Program) (ex : ExF) (lo : Nat) (ops : Array Oper) (bef : Array Nat) (m : Nat) (W : Nat → List Nat) (j : Nat) (o : Oper) (env : List AV) (H : Heap) (kept : List (Nat × Nat × Nat)) (v : AV) (H' : Heap) (kept' : List (Nat × Nat × Nat)) : Prop :=
  (Region.wanted o (yieldedA ops env) = false ∧ v = undefA ∧ H' = H ∧ kept' = kept) ∨
  (Region.wanted o (yieldedA ops env) = true ∧ ∃ V, opA P ex lo env (killL H (hidL W bef m j H.next kept)) o = some (v, V) ∧ LOk (hidL W bef m j H.next kept) (W j) H V v ∧
    ((∀ b, H'.get b = if b ∈ hidL W bef m j H.next kept then H.get b else V.get b) ∧ H'.next = V.next) ∧ kept' = if V.next = H.next then kept else (j, H.next, V.next - H.next) :: kept)

theorem hid_lt0 {W : Nat → List Nat} {bef : Array Nat} {m j n b : Nat} {k : List (Nat × Nat × Nat)} (hb : b ∈ hidL W bef m j n k) : b < n := by
  simpa using (List.mem_filter.1 hb).2
theorem LS.free [E : Env] {P : Program} {ex : ExF} {lo : Nat} {ops : Array Oper} {bef : Array Nat} {m : Nat} {W : Nat → List Nat} {j : Nat} {o : Oper} {env : List AV} {H V : Heap} {kept : List (Nat × Nat × Nat)} {v : AV} (hw : Region.wanted o (yieldedA ops env) = true)
    (hf : heapFree o.op = true) (hop : opA P ex lo env H o = some (v, V)) (hok : LOk (hidL W bef m j H.next kept) (W j) H V v) : LS P ex lo ops bef m W j o env H kept v V (if V.next = H.next then kept else (j, H.next, V.next - H.next) :: kept) := by
  generalize hhl : hidL W bef m j H.next kept = hl at hok
  have hlt : ∀ b, b ∈ hl → b < H.next := fun b hb => by rw [← hhl] at hb; exact hid_lt0 hb
  have hkn : (killL H hl).next = H.next := killL_next _ _
  rcases heapFree_indep hf hop (killL H hl) hkn with ⟨h1, h2⟩ | ⟨x, h1, h2⟩
  · subst h1
    refine .inr ⟨hw, killL V hl, by rw [hhl]; exact h2, ?_, ?_, by rw [hkn]⟩
    · rw [hhl]
      exact ⟨by rw [hkn]; exact Nat.le_refl _, fun h b x hx => by
          rw [killL_get] at hx
          split at hx
          · cases hx
          · rw [hkn]; exact h b x hx, hok.val, hok.own, fun b hb hnw hnh => by rw [killL_get, if_neg (by simpa using hnh)],
        fun b x hb hx => by
          rw [killL_get] at hx
          split at hx
          · cases hx
          · rw [hkn] at hb; exact hok.new b x hb hx⟩
    · rw [hhl]
      refine ⟨fun b => ?_, by rw [hkn]⟩
      rw [killL_get]
      by_cases hb : b ∈ hl <;> simp [hb]
  · subst h1
    have hne : H.next ∉ hl := fun h => by have := hlt _ h; omega
    refine .inr ⟨hw, (killL H hl).push x, by rw [hhl]; exact h2, ?_, ?_, by simp [hkn]⟩
    · rw [hhl]
      refine ⟨by simp [hkn], fun h b y hy => ?_, hok.val, hok.own, fun b hb hnw hnh => ?_, fun b y hb hy => ?_⟩
      · rw [Heap.get_push, hkn] at hy
        split at hy
        · simp [hkn]; omega
        · rw [killL_get] at hy
          split at hy
          · cases hy
          · have := h b y hy; simp [hkn]; omega
      · rw [Heap.get_push, hkn, if_neg (by omega), killL_get, if_neg (by simpa using hnh)]
      · refine hok.new b y (by simpa [hkn] using hb) ?_
        rw [Heap.get_push, hkn] at hy
        rw [Heap.get_push]
        split at hy
        · rename_i e; rw [if_pos e]; exact hy
        · rename_i e
          rw [if_neg e]
          rw [killL_get] at hy
          split at hy
          · cases hy
          · exact hy
    · rw [hhl]
      refine ⟨fun b => ?_, by simp [hkn]⟩
      rw [Heap.get_push, Heap.get_push, hkn, killL_get]
      by_cases hb : b ∈ hl
      · have := hlt b hb
        rw [if_pos hb, if_neg (by omega)]
      · rw [if_neg hb, if_neg hb]

section
variable {P : Program} {w0 : World} {base lo : Nat} {ι ι1 ι2 : Inj} {H H1 H2 : Heap} {w w1 w2 : World} {ex : ExF}
theorem runL_trace [E : Env] (ops : Array Oper) (bef : Array Nat) (m : Nat) (W : Nat → List Nat) : ∀ (l : List Oper) (i : Nat) (env : List AV) (H : Heap) (kept : List (Nat × Nat × Nat)) (env' : List AV) (H' : Heap), (∀ j o, l[j]? = some o → ops[i + j]? = some o) →
    runL P ex lo ops bef m W i l env H kept = some (env', H') →
    ∃ (e : Nat → List AV) (h : Nat → Heap) (kp : Nat → List (Nat × Nat × Nat)) (val : Nat → AV), e i = env ∧ h i = H ∧ kp i = kept ∧ e (i + l.length) = env' ∧ h (i + l.length) = H' ∧
      ∀ j, i ≤ j → j < i + l.length → ∃ o, ops[j]? = some o ∧ LS P ex lo ops bef m W j o (e j) (h j) (kp j) (val j) (h (j + 1)) (kp (j + 1)) ∧ e (j + 1) = putE (e j) o.dst (val j)
  | [], i, env, H, kept, env', H', _, h => by
    simp only [runL] at h; cases h
    exact ⟨fun _ => env, fun _ => H, fun _ => kept, fun _ => undefA, rfl, rfl, rfl, rfl, rfl, fun j h1 h2 => absurd h2 (by simp; omega)⟩
  | o :: l, i, env, H, kept, env', H', hl, h => by
    have ho : ops[i]? = some o := by have := hl 0 o rfl; simpa using this
    have hl' : ∀ j o', l[j]? = some o' → ops[i + 1 + j]? = some o' := fun j o' hj => by have := hl (j + 1) o' (by simpa using hj); simpa [Nat.add_assoc, Nat.add_comm 1 j] using this
    have build : ∀ (v : AV) (H1 : Heap) (k1 : List (Nat × Nat × Nat)), LS P ex lo ops bef m W i o env H kept v H1 k1 → runL P ex lo ops bef m W (i + 1) l (putE env o.dst v) H1 k1 = some (env', H') →
        ∃ (e : Nat → List AV) (h : Nat → Heap) (kp : Nat → List (Nat × Nat × Nat)) (val : Nat → AV), e i = env ∧ h i = H ∧ kp i = kept ∧ e (i + (o :: l).length) = env' ∧ h (i + (o :: l).length) = H' ∧
          ∀ j, i ≤ j → j < i + (o :: l).length → ∃ o, ops[j]? = some o ∧ LS P ex lo ops bef m W j o (e j) (h j) (kp j) (val j) (h (j + 1)) (kp (j + 1)) ∧ e (j + 1) = putE (e j) o.dst (val j) := by
      intro v H1 k1 hq hr
      obtain ⟨e, h, kp, val, e1, e2, e3, e4, e5, e6⟩ := runL_trace ops bef m W l (i + 1) _ H1 k1 env' H' hl' hr
      refine ⟨fun j => if j = i then env else e j, fun j => if j = i then H else h j, fun j => if j = i then kept else kp j, fun j => if j = i then v else val j, by simp, by simp, by simp, ?_, ?_, fun j h1 h2 => ?_⟩
      · dsimp only; rw [if_neg (by simp), ← e4]; congr 1; simp; omega
      · dsimp only; rw [if_neg (by simp), ← e5]; congr 1; simp; omega
      · by_cases hj : j = i
        · subst hj
          refine ⟨o, ho, ?_, ?_⟩
          · dsimp only; rw [if_pos rfl, if_pos rfl, if_pos rfl, if_pos rfl, if_neg (by omega), if_neg (by omega), e2, e3]; exact hq
          · dsimp only; rw [if_pos rfl, if_pos rfl, if_neg (by omega), e1]
        · obtain ⟨o', h3, h4, h5⟩ := e6 j (by omega) (by simp at h2; omega)
          refine ⟨o', h3, ?_, ?_⟩
          · dsimp only; rw [if_neg hj, if_neg hj, if_neg hj, if_neg hj, if_neg (by omega), if_neg (by omega)]; exact h4
          · dsimp only; rw [if_neg hj, if_neg hj, if_neg (by omega)]; exact h5
    simp only [runL] at h
    split at h
    · rename_i hw
      split at h
      · rename_i hf
        split at h
        · rename_i v V hop
          split at h
          · rename_i hc
            exact build v _ _ (LS.free hw hf hop (@of_decide_eq_true _ (_) hc)) h
          · cases h
        · cases h
      · split at h
        · rename_i v V hop
          split at h
          · rename_i hc
            refine build v _ _ (.inr ⟨hw, V, hop, @of_decide_eq_true _ (_) hc, ?_, rfl⟩) h
            split
            · rename_i he
              have he' : V = killL H (hidL W bef m i H.next kept) := @of_decide_eq_true _ (_) he
              refine ⟨fun b => ?_, by rw [he', killL_next]⟩
              rw [he', killL_get]
              by_cases hb : b ∈ hidL W bef m i H.next kept <;> simp [hb]
            · exact ⟨fun b => putL_get _ _ _ _, putL_next _ _ _⟩
          · cases h
        · cases h
    · rename_i hw
      exact build undefA H _ (.inl ⟨by simpa using hw, rfl, rfl, rfl⟩) h

/-- the operations as the interpreter took them, in the text's order -/
structure LT [E : Env] (P : Program) (ex : ExF) (lo : Nat) (ops : Array Oper) (bef : Array Nat) (m : Nat) (W : Nat → List Nat) (e : Nat → List AV) (h : Nat → Heap) (kp : Nat → List (Nat × Nat × Nat)) (val : Nat → AV) : Prop where
  k0 : kp 0 = []
  step : ∀ j, j < m → ∃ o, ops[j]? = some o ∧ LS P ex lo ops bef m W j o (e j) (h j) (kp j) (val j) (h (j + 1)) (kp (j + 1)) ∧ e (j + 1) = putE (e j) o.dst (val j)

section
variable {ops : Array Oper} {bef : Array Nat} {m : Nat} {W : Nat → List Nat} {e : Nat → List AV} {h : Nat → Heap} {kp : Nat → List (Nat × Nat × Nat)} {val : Nat → AV}
/-- is it wanted, with its claims? -/
def Aff (h : Nat → Heap) (Wd : Nat → List Nat) (j b : Nat) : Prop := b ∈ Wd j ∨ ((h j).next ≤ b ∧ b < (h (j + 1)).next)
/-- the claims of operations that are carried out -/
noncomputable def claims (W : Nat → List Nat) (h : Nat → Heap) (ran : Nat → Bool) (j : Nat) : List Nat := if ran j then W j else []

theorem LT.env [E : Env] (T : LT P ex lo ops bef m W e h kp val) : ∀ i, i ≤ m → (e i).length = (e 0).length ∧ ∀ t, (e i)[t]? = valT ops (e 0) val (fun _ => true) i t
  | 0, _ => ⟨rfl, fun t => rfl⟩
  | i + 1, hi => by
    obtain ⟨h1, h2⟩ := T.env i (by omega)
    obtain ⟨o, ho, _, he⟩ := T.step i (by omega)
    rw [he]
    refine ⟨by rw [putE_length, h1], fun t => ?_⟩
    simp only [valT, true_and]
    have hd : dstOf ops i = o.dst := by simp [dstOf, ho]
    rw [hd]
    cases hdst : o.dst with
    | none => simp [putE, h2 t]
    | some d =>
      simp only [putE, Option.some.injEq]
      rw [List.getElem?_set]
      by_cases e1 : d = t
      · subst e1
        by_cases e2 : d < (e i).length
        · rw [if_pos rfl, if_pos e2, if_pos ⟨rfl, h1 ▸ e2⟩]
        · rw [if_pos rfl, if_neg e2, if_neg (fun q => e2 (h1 ▸ q.2)), ← h2 d, List.getElem?_eq_none (Nat.le_of_not_lt e2)]
      · rw [if_neg e1, if_neg (by simp [e1]), h2 t]
/-- the list that is hidden from operation j -/
def hl (W : Nat → List Nat) (bef : Array Nat) (m : Nat) (h : Nat → Heap) (kp : Nat → List (Nat × Nat × Nat)) (j : Nat) : List Nat := hidL W bef m j (h j).next (kp j)
/-- which blocks operation j changes or makes -/
def Af [E : Env] (W : Nat → List Nat) (ops : Array Oper) (e : Nat → List AV) (h : Nat → Heap) (j b : Nat) : Prop :=
  ∃ o, ops[j]? = some o ∧ Region.wanted o (yieldedA ops (e j)) = true ∧ (b ∈ W j ∨ ((h j).next ≤ b ∧ b < (h (j + 1)).next))
theorem LT.next [E : Env] (T : LT P ex lo ops bef m W e h kp val) {j : Nat} (hj : j < m) : (h j).next ≤ (h (j + 1)).next := by
  obtain ⟨o, ho, hq, _⟩ := T.step j hj
  rcases hq with ⟨_, _, h1, _⟩ | ⟨_, V, _, hok, h1, _⟩
  · rw [h1]; exact Nat.le_refl _
  · rw [h1.2]; exact hok.next
theorem LT.mono [E : Env] (T : LT P ex lo ops bef m W e h kp val) : ∀ i j, i ≤ j → j ≤ m → (h i).next ≤ (h j).next := by
  intro i j hij
  induction hij with
  | refl => exact fun _ => Nat.le_refl _
  | step hij ih => exact fun hj => Nat.le_trans (ih (by omega)) (T.next (by omega))
theorem LT.lt [E : Env] (T : LT P ex lo ops bef m W e h kp val) (h0 : ∀ b x, (h 0).get b = some x → b < (h 0).next) : ∀ j, j ≤ m → ∀ b x, (h j).get b = some x → b < (h j).next
  | 0, _ => h0
  | j + 1, hj => by
    have ih := LT.lt T h0 j (by omega)
    obtain ⟨o, ho, hq, _⟩ := T.step j (by omega)
    rcases hq with ⟨_, _, h1, _⟩ | ⟨_, V, _, hok, h1, _⟩
    · rw [h1]; exact ih
    · intro b x hx
      rw [h1.2]
      rw [h1.1] at hx
      split at hx
      · have := ih b x hx; have := hok.next; omega
      · exact hok.lt ih b x hx
/-- what an operation does not change -/
theorem LT.same [E : Env] (T : LT P ex lo ops bef m W e h kp val) {j b : Nat} (hj : j < m) (hb : b < (h j).next) (hn : ¬ Af W ops e h j b) : (h (j + 1)).get b = (h j).get b := by
  obtain ⟨o, ho, hq, _⟩ := T.step j hj
  rcases hq with ⟨_, _, h1, _⟩ | ⟨hw, V, _, hok, h1, _⟩
  · rw [h1]
  · rw [h1.1]
    by_cases hh : b ∈ hidL W bef m j (h j).next (kp j)
    · rw [if_pos hh]
    · rw [if_neg hh]
      exact hok.same b hb (fun hw' => hn ⟨o, ho, hw, .inl hw'⟩) (by simpa using hh)
theorem LT.kept [E : Env] (T : LT P ex lo ops bef m W e h kp val) : ∀ i, i ≤ m → ∀ j, j < i → (h j).next < (h (j + 1)).next → (j, (h j).next, (h (j + 1)).next - (h j).next) ∈ kp i
  | 0, _ => fun j hj => absurd hj (by omega)
  | i + 1, hi => by
    intro j hj hlt
    obtain ⟨o, ho, hq, _⟩ := T.step i (by omega)
    have hk : kp (i + 1) = if (h (i + 1)).next = (h i).next then kp i else (i, (h i).next, (h (i + 1)).next - (h i).next) :: kp i := by
      rcases hq with ⟨_, _, h1, h2⟩ | ⟨_, V, _, _, h1, h2⟩
      · rw [h2, h1]; simp
      · rw [h2, h1.2]
    rw [hk]
    by_cases e1 : j = i
    · subst e1; rw [if_neg (by omega)]; exact List.mem_cons_self
    · have := T.kept i (by omega) j (by omega) hlt
      split
      · exact this
      · exact List.mem_cons_of_mem _ this
theorem unord_iff {i j : Nat} : unord bef i j = true ↔ i ≠ j ∧ (bef.getD i 0).testBit j = false ∧ (bef.getD j 0).testBit i = false := by
  simp [unord, and_assoc]
theorem hid_claim {i j n b : Nat} {k : List (Nat × Nat × Nat)} (hi : i < m) (hu : unord bef i j = true) (hb : b ∈ W i) (hn : b < n) : b ∈ hidL W bef m j n k := by
  unfold hidL
  refine List.mem_filter.2 ⟨List.mem_append.2 (.inl (List.mem_flatMap.2 ⟨i, List.mem_range.2 hi, ?_⟩)), by simpa using hn⟩
  rw [if_pos hu]; exact hb
theorem hid_new {i j n a c b : Nat} {k : List (Nat × Nat × Nat)} (hk : (i, a, c) ∈ k) (hu : (bef.getD j 0).testBit i = false) (h1 : a ≤ b) (h2 : b < a + c) (hn : b < n) : b ∈ hidL W bef m j n k := by
  unfold hidL
  refine List.mem_filter.2 ⟨List.mem_append.2 (.inr (List.mem_flatMap.2 ⟨_, hk, ?_⟩)), by simpa using hn⟩
  simp only [hu, Bool.false_eq_true, if_false]
  exact List.mem_range'_1.2 ⟨h1, h2⟩
theorem hid_lt {j n b : Nat} {k : List (Nat × Nat × Nat)} (hb : b ∈ hidL W bef m j n k) : b < n := by
  simpa using (List.mem_filter.1 hb).2
/-- what an operation changes or makes is not hidden from it -/
theorem LT.af [E : Env] (T : LT P ex lo ops bef m W e h kp val) {j b : Nat} (hj : j < m) (ha : Af W ops e h j b) : b ∉ hl W bef m h kp j ∧ b < (h (j + 1)).next := by
  obtain ⟨o, ho, hq, _⟩ := T.step j hj
  obtain ⟨o', ho', hw, ha⟩ := ha
  rw [ho] at ho'; cases ho'
  rcases hq with ⟨hw', _⟩ | ⟨_, V, _, hok, h1, _⟩
  · rw [hw] at hw'; cases hw'
  · have hn := T.next hj
    rcases ha with ha | ha
    · obtain ⟨h2, h3⟩ := hok.own b ha
      exact ⟨by simpa [hl] using h3, by omega⟩
    · exact ⟨fun hh => by have := hid_lt hh; omega, ha.2⟩
/-- a block is seen by an operation: whatever else changes it stands before or behind -/
theorem LT.ordered [E : Env] (T : LT P ex lo ops bef m W e h kp val) {i q b : Nat} (hi : i < m) (hq : q < m) (hne : q ≠ i) (hb : b < (h i).next) (hv : b ∉ hl W bef m h kp i) (ha : Af W ops e h q b) :
    (bef.getD i 0).testBit q = true ∨ (bef.getD q 0).testBit i = true := by
  cases h1 : (bef.getD i 0).testBit q with
  | true => exact .inl rfl
  | false =>
    cases h2 : (bef.getD q 0).testBit i with
    | true => exact .inr rfl
    | false =>
      exfalso
      obtain ⟨o, ho, hw, ha⟩ := ha
      rcases ha with ha | ha
      · exact hv (hid_claim hq (unord_iff.2 ⟨hne, h2, h1⟩) ha hb)
      · rcases Nat.lt_or_ge q i with hlt | hge
        · exact hv (hid_new (T.kept i (by omega) q hlt (by omega)) h1 ha.1 (by omega) hb)
        · have := T.mono i q hge (by omega); omega
/-- two operations that change one block stand in an order -/
theorem LT.both [E : Env] (T : LT P ex lo ops bef m W e h kp val) {i q b : Nat} (hi : i < m) (hq : q < m) (hne : q ≠ i) (h1 : Af W ops e h i b) (h2 : Af W ops e h q b) :
    (bef.getD i 0).testBit q = true ∨ (bef.getD q 0).testBit i = true := by
  obtain ⟨v1, l1⟩ := T.af hi h1
  obtain ⟨v2, l2⟩ := T.af hq h2
  by_cases hb : b < (h i).next
  · exact T.ordered hi hq hne hb v1 h2
  · by_cases hb2 : b < (h q).next
    · exact (T.ordered hq hi (fun k => hne k.symm) hb2 v2 h1).symm
    · rcases Nat.lt_or_ge q i with hlt | hge
      · have := T.mono (q + 1) i (by omega) (by omega); omega
      · have := T.mono (i + 1) q (by omega) (by omega); omega

/-- what block b holds when the operations below i that D lists have been carried out in the text's order -/
noncomputable def blkT [E : Env] (W : Nat → List Nat) (ops : Array Oper) (e : Nat → List AV) (h : Nat → Heap) (D : Nat → Bool) : Nat → Nat → Option Blk
  | 0, b => if b < (h 0).next then (h 0).get b else none
  | i + 1, b => if D i = true ∧ @decide (Af W ops e h i b) (Classical.propDecidable _) = true then (h (i + 1)).get b else blkT W ops e h D i b
theorem blkT_step [E : Env] {D : Nat → Bool} {i b : Nat} (h1 : D i = true) (h2 : Af W ops e h i b) : blkT W ops e h D (i + 1) b = (h (i + 1)).get b := by
  rw [blkT, if_pos ⟨h1, by simpa using h2⟩]
theorem blkT_skip [E : Env] {D : Nat → Bool} {i b : Nat} (h1 : D i = true → ¬ Af W ops e h i b) : blkT W ops e h D (i + 1) b = blkT W ops e h D i b := by
  rw [blkT, if_neg (fun k => h1 k.1 (by simpa using k.2))]
theorem blkT_le [E : Env] {D : Nat → Bool} {b i : Nat} : ∀ k, i ≤ k → (∀ j, i ≤ j → j < k → D j = true → ¬ Af W ops e h j b) → blkT W ops e h D k b = blkT W ops e h D i b := by
  intro k hk
  induction hk with
  | refl => exact fun _ => rfl
  | step hk ih =>
    rename_i k
    intro hw
    rw [blkT_skip (fun hd => hw k hk (by omega) hd), ih (fun j h1 h2 => hw j h1 (by omega))]
theorem blkT_same [E : Env] {D D' : Nat → Bool} {b : Nat} : ∀ k, (∀ j, j < k → Af W ops e h j b → D j = D' j) → blkT W ops e h D k b = blkT W ops e h D' k b
  | 0, _ => rfl
  | k + 1, hw => by
    by_cases ha : Af W ops e h k b
    · by_cases hd : D k = true
      · rw [blkT_step hd ha, blkT_step (by rw [← hw k (by omega) ha]; exact hd) ha]
      · rw [blkT_skip (fun k' => absurd k' hd), blkT_skip (fun k' => by rw [← hw k (by omega) ha] at k'; exact absurd k' hd), blkT_same k (fun j hj => hw j (by omega))]
    · rw [blkT_skip (fun _ => ha), blkT_skip (fun _ => ha), blkT_same k (fun j hj => hw j (by omega))]
/-- a block's content is of the start, or an operation's -/
theorem blkT_cases [E : Env] {D : Nat → Bool} {b : Nat} {x : Blk} : ∀ k, blkT W ops e h D k b = some x → (b < (h 0).next ∧ (h 0).get b = some x) ∨ ∃ j, j < k ∧ D j = true ∧ Af W ops e h j b ∧ (h (j + 1)).get b = some x
  | 0, hx => by
    rw [blkT] at hx
    split at hx
    · rename_i hb; exact .inl ⟨hb, hx⟩
    · cases hx
  | k + 1, hx => by
    by_cases hc : D k = true ∧ Af W ops e h k b
    · rw [blkT_step hc.1 hc.2] at hx; exact .inr ⟨k, by omega, hc.1, hc.2, hx⟩
    · rw [blkT_skip (fun h1 h2 => hc ⟨h1, h2⟩)] at hx
      rcases blkT_cases k hx with h1 | ⟨j, h1, h2⟩
      · exact .inl h1
      · exact .inr ⟨j, by omega, h2⟩
/-- where all that has changed it is carried out, it is as in the text's order -/
theorem LT.blk [E : Env] (T : LT P ex lo ops bef m W e h kp val) {D : Nat → Bool} {b : Nat} : ∀ k, k ≤ m → b < (h k).next → (∀ q, q < k → Af W ops e h q b → D q = true) → blkT W ops e h D k b = (h k).get b
  | 0, _, hb, _ => by rw [blkT, if_pos hb]
  | k + 1, hk, hb, hq => by
    by_cases ha : Af W ops e h k b
    · exact blkT_step (hq k (by omega) ha) ha
    · have hbk : b < (h k).next := by
        apply Classical.byContradiction
        intro hge
        obtain ⟨o, ho, hs, _⟩ := T.step k (by omega)
        rcases hs with ⟨_, _, h1, _⟩ | ⟨hw, V, _, _, h1, _⟩
        · rw [h1] at hb; omega
        · exact ha ⟨o, ho, hw, .inr ⟨by omega, hb⟩⟩
      rw [blkT_skip (fun _ => ha), T.blk k (by omega) hbk (fun q h1 => hq q (by omega)), T.same (by omega) hbk ha]
end
end
end Go.Ab
/-! The abstract interpreter is sound, 21: operations that change what is there, in an open order, 2: one operation out of the machine's order. Conditions: none. -/
set_option linter.unusedSimpArgs false
set_option linter.unusedVariables false
namespace Go.Ab
open Go Go.RowKit
section
variable {P : Program} {w0 : World} {base lo : Nat} {ι ι0 ι1 ι2 : Inj} {H H1 H2 : Heap} {w w00 w1 w2 : World} {ex : ExF}
variable {ops : Array Oper} {bef : Array Nat} {m : Nat} {W : Nat → List Nat} {e : Nat → List AV} {h : Nat → Heap} {kp : Nat → List (Nat × Nat × Nat)} {val : Nat → AV} {marks : List Nat} {D : Nat → Bool} {a : Act}

/-- an id that is not hidden -/
def seen (W : Nat → List Nat) (bef : Array Nat) (m : Nat) (h : Nat → Heap) (kp : Nat → List (Nat × Nat × Nat)) (j b : Nat) : Bool := !(hl W bef m h kp j).contains b

structure IL [E : Env] (P : Program) (w0 : World) (base lo : Nat) (ι0 : Inj) (w00 : World) (marks : List Nat) (ops : Array Oper) (bef : Array Nat) (m : Nat) (W : Nat → List Nat) (e : Nat → List AV) (h : Nat → Heap) (val : Nat → AV) (kp : Nat → List (Nat × Nat × Nat)) (D : Nat → Bool) (ι : Inj) (w : World) (a : Act) : Prop where
  dm : ∀ i, D i = true → i < m
  dc : ∀ i, D i = true → ∀ j, (bef.getD i 0).testBit j = true → D j = true
  tsz : a.tmps.size = (e 0).length
  tm : ∀ t, a.tmps[t]? = (valT ops (e 0) val D m t).map (AV.conc ι)
  vok : ∀ i, D i = true → (val i).OK w0 base (h (i + 1)).next
  vis : ∀ i, D i = true → (val i).all (seen W bef m h kp i) = true
  dfs : a.defers = marks.map (markOf ι)
  ext : ∀ b, b < (h 0).next → ι b = ι0 b
  below : Below base w0 w
  inj : ∀ b b' x x', blkT W ops e h D m b = some x → blkT W ops e h D m b' = some x' → (ι b).1 = (ι b').1 → b = b'
  lob : ∀ b x, blkT W ops e h D m b = some x → base ≤ (ι b).1
  rel : ∀ b x, blkT W ops e h D m b = some x → BlkRel P ι (ι b).2 w.heap[(ι b).1]? x
  bok : ∀ i b x, D i = true → Af W ops e h i b → (h (i + 1)).get b = some x → BlkOK w0 base (h (i + 1)).next x ∧ x.all (seen W bef m h kp i) = true
  size : w00.heap.size ≤ w.heap.size
  frame : ∀ r, r < w00.heap.size → (∀ b x, (h 0).get b = some x → lo ≤ b → (ι0 b).1 ≠ r) → w.heap[r]? = w00.heap[r]?
  fresh : ∀ b x, blkT W ops e h D m b = some x → (h 0).next ≤ b → w00.heap.size ≤ (ι b).1 ∨ ∃ b0 x0, (h 0).get b0 = some x0 ∧ lo ≤ b0 ∧ (ι b).1 = (ι0 b0).1
  alive : ∀ b x, blkT W ops e h D m b = some x → b < (h 0).next → ∃ y, (h 0).get b = some y
  keep : ∀ b, b < lo → blkT W ops e h D m b = (h 0).get b

/-- ids that are not hidden from an operation that is carried out are none of those that one that is not would make -/
theorem LT.apart [E : Env] (T : LT P ex lo ops bef m W e h kp val) {i j b : Nat} (hi : i < m) (hj : j < m) (hDi : D i = false) (hDj : D j = true) (hdc : ∀ q, (bef.getD j 0).testBit q = true → D q = true)
    (h1 : b < (h (j + 1)).next) (h2 : seen W bef m h kp j b = true) : ¬ ((h i).next ≤ b ∧ b < (h (i + 1)).next) := by
  rintro ⟨h3, h4⟩
  by_cases hij : i < j
  · have hb : (bef.getD j 0).testBit i = false := by
      cases hx : (bef.getD j 0).testBit i with
      | false => rfl
      | true => rw [hdc i hx] at hDi; cases hDi
    have hbn : b < (h j).next := by have := T.mono (i + 1) j (by omega) (by omega); omega
    have := hid_new (W := W) (m := m) (n := (h j).next) (T.kept j (by omega) i hij (by omega)) hb h3 (by omega) hbn
    simp [seen, hl, this] at h2
  · by_cases hji : j = i
    · subst hji; rw [hDj] at hDi; cases hDi
    · have := T.mono (j + 1) i (by omega) (by omega)
      omega

/-- what operation i sees is as the interpreter has it -/
theorem IL.view [E : Env] (T : LT P ex lo ops bef m W e h kp val) (hbits : ∀ i j, (bef.getD i 0).testBit j = true → j < i) (I : IL P w0 base lo ι0 w00 marks ops bef m W e h val kp D ι w a) {i : Nat} (hi : i < m) (hDi : D i = false) (hpre : ∀ j, (bef.getD i 0).testBit j = true → D j = true)
    {b : Nat} (hb : b < (h i).next) (hv : b ∉ hl W bef m h kp i) : blkT W ops e h D m b = (h i).get b := by
  have ho := fun q (hq : q < m) (hne : q ≠ i) (ha : Af W ops e h q b) => T.ordered hi hq hne hb hv ha
  rw [blkT_le m (by omega : i ≤ m) (fun j h1 h2 hd ha => by
    have hne : j ≠ i := by rintro rfl; rw [hd] at hDi; cases hDi
    rcases ho j h2 hne ha with k | k
    · have := hbits i j k; omega
    · rw [I.dc j hd i k] at hDi; cases hDi)]
  exact T.blk i (by omega) hb (fun q hq ha => by
    rcases ho q (by omega) (by omega) ha with k | k
    · exact hpre q k
    · have := hbits q i k; omega)

theorem IL.next [E : Env] (T : LT P ex lo ops bef m W e h kp val) (hr : raceFree ops bef = true) (hbits : ∀ i j, (bef.getD i 0).testBit j = true → j < i) (hOKe : ∀ v ∈ e 0, v.OK w0 base (h 0).next) (hOK0 : ∀ b x, (h 0).get b = some x → BlkOK w0 base (h 0).next x ∧ b < (h 0).next)
    (I : IL P w0 base lo ι0 w00 marks ops bef m W e h val kp D ι w a) (hmk : ∀ b ∈ marks, b < (h 0).next) (hlo : lo ≤ (h 0).next) {i : Nat} (hi : i < m) (hDi : D i = false) (hpre : ∀ j, (bef.getD i 0).testBit j = true → D j = true)
    {V : Heap} (hVn : V.next = (h (i + 1)).next) (hV : ∀ b, Af W ops e h i b → V.get b = (h (i + 1)).get b) (hVs : ∀ b, b < (h i).next → b ∉ hl W bef m h kp i → ¬ Af W ops e h i b → V.get b = (h i).get b)
    (hvis : (val i).all (seen W bef m h kp i) = true) (hnew : ∀ b x, Af W ops e h i b → (h (i + 1)).get b = some x → x.all (seen W bef m h kp i) = true)
    (hv : (val i).OK w0 base V.next) (hp : Post P w0 base lo ι (killL (h i) (hl W bef m h kp i)) w ι1 V w1) :
    ∃ ι', IL P w0 base lo ι0 w00 marks ops bef m W e h val kp (fun j => if j = i then true else D j) ι' w1 (a.put (dstOf ops i) ((val i).conc ι1)) := by
  have hn0 : (h 0).next ≤ (h i).next := T.mono 0 i (by omega) (by omega)
  have hni := T.next hi
  have hk : ∀ b, (killL (h i) (hl W bef m h kp i)).get b = if b ∈ hl W bef m h kp i then none else (h i).get b := fun b => killL_get b _ _
  have hkn : (killL (h i) (hl W bef m h kp i)).next = (h i).next := killL_next _ _
  -- what is seen is there
  have hview : ∀ b x, (killL (h i) (hl W bef m h kp i)).get b = some x → b < (h i).next → blkT W ops e h D m b = some x ∧ b ∉ hl W bef m h kp i := by
    intro b x hx hb
    rw [hk] at hx
    split at hx
    · cases hx
    · rename_i hnv; exact ⟨by rw [I.view T hbits hi hDi hpre hb hnv]; exact hx, hnv⟩
  have hext : ∀ b, b < (h i).next → ι1 b = ι b := fun b hb => hp.ext b (by rw [hkn]; exact hb)
  -- the numbering behind
  have f1 : ∀ b, b < (h (i + 1)).next → (fun b => if (h i).next ≤ b ∧ b < (h (i + 1)).next then ι1 b else ι b : Inj) b = ι1 b := fun b hb => by
    dsimp only
    by_cases hc : (h i).next ≤ b
    · rw [if_pos ⟨hc, hb⟩]
    · rw [if_neg (by omega), hext b (by omega)]
  have f2 : ∀ b, ¬ ((h i).next ≤ b ∧ b < (h (i + 1)).next) → (fun b => if (h i).next ≤ b ∧ b < (h (i + 1)).next then ι1 b else ι b : Inj) b = ι b := fun b hb => by
    dsimp only; rw [if_neg hb]
  generalize hι' : (fun b => if (h i).next ≤ b ∧ b < (h (i + 1)).next then ι1 b else ι b : Inj) = ι' at f1 f2
  have g0 : ∀ b, b < (h 0).next → ι' b = ι b := fun b hb => f2 b (by omega)
  have cv : (val i).conc ι' = (val i).conc ι1 := conc_ext (fun b hb => f1 b (by omega)) _ hv
  have cj : ∀ j, D j = true → (val j).conc ι' = (val j).conc ι := fun j hj =>
    conc_all (p := fun b => decide (b < (h (j + 1)).next) && seen W bef m h kp j b) (fun b hb => by
      simp only [Bool.and_eq_true, decide_eq_true_eq] at hb
      exact f2 b (T.apart hi (I.dm j hj) hDi hj (I.dc j hj) hb.1 hb.2)) _ (all_and _ (all_lt _ (I.vok j hj)) (I.vis j hj))
  have cB : ∀ b x, blkT W ops e h D m b = some x → ∀ cap o, BlkRel P ι cap o x → BlkRel P ι' cap o x := fun b x hL cap o hrel => by
    rcases blkT_cases m hL with ⟨h1, h2⟩ | ⟨j, _, hj, haf, h3⟩
    · exact BlkRel.ext g0 (hOK0 b x h2).1 hrel
    · obtain ⟨k1, k2⟩ := I.bok j b x hj haf h3
      exact BlkRel.all (p := fun b => decide (b < (h (j + 1)).next) && seen W bef m h kp j b) (fun b hb => by
        simp only [Bool.and_eq_true, decide_eq_true_eq] at hb
        exact f2 b (T.apart hi (I.dm j hj) hDi hj (I.dc j hj) hb.1 hb.2)) (Blk.all_and k1.all_lt k2) hrel
  -- contents behind
  have cAf : ∀ b, Af W ops e h i b → blkT W ops e h (fun j => if j = i then true else D j) m b = (h (i + 1)).get b := fun b haf => by
    rw [blkT_le m (by omega : i + 1 ≤ m) (fun j h1 h2 hd ha => by
      have hne : j ≠ i := by omega
      simp only [hne, if_false] at hd
      rcases T.both hi h2 hne haf ha with k | k
      · have := hbits i j k; omega
      · rw [I.dc j hd i k] at hDi; cases hDi)]
    exact blkT_step (by simp) haf
  have cNo : ∀ b, ¬ Af W ops e h i b → blkT W ops e h (fun j => if j = i then true else D j) m b = blkT W ops e h D m b := fun b hna =>
    blkT_same m fun j _ ha => by
      have : j ≠ i := by rintro rfl; exact hna ha
      simp [this]
  have dlt : ∀ b x, blkT W ops e h D m b = some x → ¬ ((h i).next ≤ b ∧ b < (h (i + 1)).next) := fun b x hL => by
    rcases blkT_cases m hL with ⟨h1, _⟩ | ⟨j, hjm, hj, haf, _⟩
    · omega
    · obtain ⟨n1, n2⟩ := T.af hjm haf
      exact T.apart hi hjm hDi hj (I.dc j hj) n2 (by simpa [seen] using n1)
  have anew : ∀ b, Af W ops e h i b → b < (h (i + 1)).next ∧ b ∉ hl W bef m h kp i := fun b haf => ⟨(T.af hi haf).2, (T.af hi haf).1⟩
  -- a block that operation i changed or made
  have hA : ∀ b x, Af W ops e h i b → (h (i + 1)).get b = some x → V.get b = some x ∧ ι' b = ι1 b ∧ ((b < (h i).next ∧ ι1 b = ι b ∧ ∃ y, blkT W ops e h D m b = some y) ∨
      ((h i).next ≤ b ∧ (w.heap.size ≤ (ι1 b).1 ∨ ∃ b0 x0, blkT W ops e h D m b0 = some x0 ∧ b0 < (h i).next ∧ lo ≤ b0 ∧ (b0 ∉ hl W bef m h kp i ∧ V.get b0 = none) ∧ (ι1 b).1 = (ι b0).1))) := by
    intro b x haf hx
    have hVb : V.get b = some x := by rw [hV b haf]; exact hx
    obtain ⟨hbn, hbh⟩ := anew b haf
    refine ⟨hVb, f1 b hbn, ?_⟩
    by_cases hb : b < (h i).next
    · obtain ⟨y, hy⟩ := hp.alive b x (by rw [hkn]; exact hb) hVb
      exact .inl ⟨hb, hext b hb, y, (hview b y hy hb).1⟩
    · refine .inr ⟨by omega, ?_⟩
      rcases hp.newr b x hVb (by rw [hkn]; omega) with k | ⟨b0, x0, k1, k2, k3⟩
      · exact .inl k
      · have hb0 : b0 < (h i).next := by
          rw [hk] at k1
          split at k1
          · cases k1
          · exact T.lt (fun b x hx => (hOK0 b x hx).2) i (by omega) b0 x0 k1
        obtain ⟨m1, m2⟩ := hview b0 x0 k1 hb0
        refine .inr ⟨b0, x0, m1, hb0, k2, ⟨m2, ?_⟩, by rw [k3]⟩
        cases hVb0 : V.get b0 with
        | none => rfl
        | some y0 =>
          have := hp.sim.inj b b0 x y0 hVb hVb0 (by rw [k3, hext b0 hb0])
          omega
  -- a block that it left alone
  have hN : ∀ b x, ¬ Af W ops e h i b → blkT W ops e h D m b = some x → ι' b = ι b ∧ BlkRel P ι' (ι b).2 w1.heap[(ι b).1]? x ∧ (b < (h i).next → b ∉ hl W bef m h kp i → V.get b = some x) := by
    intro b x hna hL
    have hd := dlt b x hL
    refine ⟨f2 b hd, ?_, fun hb hnv => ?_⟩
    · by_cases hb : b < (h i).next
      · by_cases hnv : b ∈ hl W bef m h kp i
        · rw [hp.frame _ (rel_lt (I.rel b x hL)) fun b2 x2 k1 k2 => ?_]
          · exact cB b x hL _ _ (I.rel b x hL)
          · intro heq
            have hb2 : b2 < (h i).next := by
              rw [hk] at k1
              split at k1
              · cases k1
              · exact T.lt (fun b x hx => (hOK0 b x hx).2) i (by omega) b2 x2 k1
            obtain ⟨m1, m2⟩ := hview b2 x2 k1 hb2
            have := I.inj b2 b x2 x m1 hL heq
            subst this
            exact m2 hnv
        · have hVb : V.get b = some x := by rw [hVs b hb hnv hna, ← I.view T hbits hi hDi hpre hb hnv]; exact hL
          have hrel := hp.sim.rel b x hVb
          have hok := hp.sim.ok b x hVb
          rw [hext b hb] at hrel
          exact BlkRel.ext (fun c hc => f1 c (by omega)) hok hrel
      · rw [hp.frame _ (rel_lt (I.rel b x hL)) fun b2 x2 k1 k2 => ?_]
        · exact cB b x hL _ _ (I.rel b x hL)
        · intro heq
          have hb2 : b2 < (h i).next := by
            rw [hk] at k1
            split at k1
            · cases k1
            · exact T.lt (fun b x hx => (hOK0 b x hx).2) i (by omega) b2 x2 k1
          obtain ⟨m1, m2⟩ := hview b2 x2 k1 hb2
          have := I.inj b2 b x2 x m1 hL heq
          omega
    · rw [hVs b hb hnv hna, ← I.view T hbits hi hDi hpre hb hnv]; exact hL
  refine ⟨ι', ⟨?_, ?_, ?_, ?_, ?_, ?_, ?_, ?_, ?_, ?_, ?_, ?_, ?_, ?_, ?_, ?_, ?_, ?_⟩⟩
  · intro j hj; by_cases hji : j = i
    · omega
    · simp only [hji, if_false] at hj; exact I.dm j hj
  · intro j hj q hq
    by_cases hqi : q = i
    · simp [hqi]
    · simp only [hqi, if_false]
      by_cases hji : j = i
      · subst hji; exact hpre q hq
      · simp only [hji, if_false] at hj; exact I.dc j hj q hq
  · cases hd : dstOf ops i <;> simp [Act.put, I.tsz]
  · intro t
    have hbase : (valT ops (e 0) val D m t).map (AV.conc ι') = (valT ops (e 0) val D m t).map (AV.conc ι) := by
      cases hv' : valT ops (e 0) val D m t with
      | none => rfl
      | some v =>
        simp only [Option.map_some]
        congr 1
        rcases valT_cases (e 0) D t m v hv' with hm | ⟨j, _, hj, rfl⟩
        · exact conc_ext g0 v (hOKe v hm)
        · exact cj j hj
    by_cases hd : dstOf ops i = some t
    · rw [hd]
      by_cases ht : t < (e 0).length
      · have hval : valT ops (e 0) val (fun j => if j = i then true else D j) m t = some (val i) := by
          rw [valT_le (ops := ops) (val := val) _ (e 0) t (i + 1) m (by omega) (fun j h1 h2 hj hdj => by
            have hji : j ≠ i := by omega
            simp only [hji, if_false] at hj
            obtain ⟨o, ho, _⟩ := T.step i hi
            obtain ⟨oj, hoj, _⟩ := T.step j h2
            have hdo : o.dst = some t := by simpa [dstOf, ho] using hd
            have hdoj : oj.dst = some t := by simpa [dstOf, hoj] using hdj
            cases hb1 : (bef.getD i 0).testBit j with
            | true => have := hbits i j hb1; omega
            | false =>
              cases hb2 : (bef.getD j 0).testBit i with
              | true => rw [I.dc j hj i hb2] at hDi; cases hDi
              | false => exact (raceFree_spec hr ho hoj (fun q => hji q.symm) hb1 hb2 t hdo).2 hdoj)]
          simp [valT, hd, ht]
        rw [hval]
        simp only [Act.put, Option.map_some]
        rw [Array.getElem?_setIfInBounds_self_of_lt (by rw [I.tsz]; exact ht), cv]
      · have hnone : ∀ D' k, valT ops (e 0) val D' k t = none := fun D' k => by
          induction k with
          | zero => exact List.getElem?_eq_none (Nat.le_of_not_lt ht)
          | succ k ih => rw [valT, if_neg (fun q => ht q.2.2)]; exact ih
        rw [hnone]
        simp only [Act.put, Option.map_none]
        exact Array.getElem?_eq_none (by simp [I.tsz]; omega)
    · have hsame : valT ops (e 0) val (fun j => if j = i then true else D j) m t = valT ops (e 0) val D m t := valT_same (e 0) t _ _ m (fun j _ hj => by
        have : j ≠ i := fun q => hd (by rw [← q]; exact hj)
        simp [this])
      rw [hsame, hbase, ← I.tm t]
      cases hd2 : dstOf ops i with
      | none => rfl
      | some d2 =>
        simp only [Act.put]
        rw [Array.getElem?_setIfInBounds_ne (fun q => hd (by rw [hd2, q]))]
  · intro j hj
    by_cases hji : j = i
    · subst hji; rw [← hVn]; exact hv
    · simp only [hji, if_false] at hj; exact I.vok j hj
  · intro j hj
    by_cases hji : j = i
    · subst hji; exact hvis
    · simp only [hji, if_false] at hj; exact I.vis j hj
  · have : (a.put (dstOf ops i) ((val i).conc ι1)).defers = a.defers := by cases dstOf ops i <;> rfl
    rw [this, I.dfs]
    exact List.map_congr_left fun b hb => by simp [markOf, g0 b (hmk b hb)]
  · intro b hb; rw [g0 b hb]; exact I.ext b hb
  · exact hp.sim.below
  · -- no two blocks at one place
    have half : ∀ b b' x x', Af W ops e h i b → (h (i + 1)).get b = some x → ¬ Af W ops e h i b' → blkT W ops e h D m b' = some x' → (ι' b).1 = (ι' b').1 → b = b' := by
      intro b b' x x' haf hx hna hL' heq
      obtain ⟨hVb, hib, hc⟩ := hA b x haf hx
      obtain ⟨hib', _, hVs'⟩ := hN b' x' hna hL'
      rw [hib, hib'] at heq
      rcases hc with ⟨h1, h2, y, hy⟩ | ⟨h1, h2 | ⟨b0, x0, h2, h3, h4, h5, h6⟩⟩
      · rw [h2] at heq; exact I.inj b b' y x' hy hL' heq
      · have := rel_lt (I.rel b' x' hL'); omega
      · have := I.inj b0 b' x0 x' h2 hL' (by rw [← h6]; exact heq)
        subst this
        have h7 := hVs' h3 h5.1
        rw [h5.2] at h7; cases h7
    intro b b' x x' hL hL' heq
    by_cases ha : Af W ops e h i b <;> by_cases ha' : Af W ops e h i b'
    · rw [cAf b ha] at hL; rw [cAf b' ha'] at hL'
      obtain ⟨k1, k2, _⟩ := hA b x ha hL
      obtain ⟨q1, q2, _⟩ := hA b' x' ha' hL'
      rw [k2, q2] at heq
      exact hp.sim.inj b b' x x' k1 q1 heq
    · rw [cAf b ha] at hL; rw [cNo b' ha'] at hL'
      exact half b b' x x' ha hL ha' hL' heq
    · rw [cNo b ha] at hL; rw [cAf b' ha'] at hL'
      exact (half b' b x' x ha' hL' ha hL heq.symm).symm
    · rw [cNo b ha] at hL; rw [cNo b' ha'] at hL'
      rw [(hN b x ha hL).1, (hN b' x' ha' hL').1] at heq
      exact I.inj b b' x x' hL hL' heq
  · intro b x hL
    by_cases ha : Af W ops e h i b
    · rw [cAf b ha] at hL
      obtain ⟨k1, k2, _⟩ := hA b x ha hL
      rw [k2]; exact hp.sim.lo b x k1
    · rw [cNo b ha] at hL
      rw [(hN b x ha hL).1]; exact I.lob b x hL
  · intro b x hL
    by_cases ha : Af W ops e h i b
    · rw [cAf b ha] at hL
      obtain ⟨k1, k2, _⟩ := hA b x ha hL
      rw [k2]
      exact BlkRel.ext (fun c hc => f1 c (by omega)) (hp.sim.ok b x k1) (hp.sim.rel b x k1)
    · rw [cNo b ha] at hL
      obtain ⟨k1, k2, _⟩ := hN b x ha hL
      rw [k1]; exact k2
  · intro j b x hj haf hx
    by_cases hji : j = i
    · subst hji
      obtain ⟨k1, _⟩ := hA b x haf hx
      exact ⟨by rw [← hVn]; exact hp.sim.ok b x k1, hnew b x haf hx⟩
    · simp only [hji, if_false] at hj; exact I.bok j b x hj haf hx
  · exact Nat.le_trans I.size hp.size
  · intro r hr' hne
    rw [hp.frame r (Nat.lt_of_lt_of_le hr' I.size) fun b x k1 k2 => ?_]
    · exact I.frame r hr' hne
    · have hb2 : b < (h i).next := by
        rw [hk] at k1
        split at k1
        · cases k1
        · exact T.lt (fun b x hx => (hOK0 b x hx).2) i (by omega) b x k1
      obtain ⟨m1, m2⟩ := hview b x k1 hb2
      intro heq
      by_cases hb0 : b < (h 0).next
      · obtain ⟨y, hy⟩ := I.alive b x m1 hb0
        rw [I.ext b hb0] at heq
        exact hne b y hy k2 heq
      · rcases I.fresh b x m1 (by omega) with k | ⟨b0, x0, q1, q2, q3⟩
        · omega
        · rw [q3] at heq; exact hne b0 x0 q1 q2 heq
  · intro b x hL hb
    by_cases ha : Af W ops e h i b
    · rw [cAf b ha] at hL
      obtain ⟨k1, k2, hc⟩ := hA b x ha hL
      rcases hc with ⟨h1, h2, y, hy⟩ | ⟨h1, h2 | ⟨b0, x0, h2, h3, h4, h5, h6⟩⟩
      · rw [k2, h2]; exact I.fresh b y hy hb
      · rw [k2]; exact .inl (Nat.le_trans I.size h2)
      · rw [k2, h6]
        by_cases hb0 : b0 < (h 0).next
        · obtain ⟨y, hy⟩ := I.alive b0 x0 h2 hb0
          exact .inr ⟨b0, y, hy, h4, by rw [I.ext b0 hb0]⟩
        · exact I.fresh b0 x0 h2 (by omega)
    · rw [cNo b ha] at hL
      rw [(hN b x ha hL).1]; exact I.fresh b x hL hb
  · intro b x hL hb
    by_cases ha : Af W ops e h i b
    · rw [cAf b ha] at hL
      obtain ⟨k1, k2, hc⟩ := hA b x ha hL
      rcases hc with ⟨h1, h2, y, hy⟩ | ⟨h1, _⟩
      · exact I.alive b y hy hb
      · omega
    · rw [cNo b ha] at hL; exact I.alive b x hL hb
  · intro b hb
    by_cases ha : Af W ops e h i b
    · obtain ⟨k1, k2⟩ := anew b ha
      have hbi : b < (h i).next := by omega
      rw [cAf b ha, ← hV b ha, hp.keep b hb, hk, if_neg k2, ← I.view T hbits hi hDi hpre hbi k2]
      exact I.keep b hb
    · rw [cNo b ha]; exact I.keep b hb
end
end Go.Ab
/-! The abstract interpreter is sound, 18: all code; the calls. Conditions: none. -/
set_option linter.unusedSimpArgs false
set_option linter.unusedVariables false
namespace Go.Ab
open Go Go.RowKit

def cnt (D : Nat → Bool) : Nat → Nat
  | 0 => 0
  | n + 1 => cnt D n + (if D n then 0 else 1)
theorem cnt_same {D D' : Nat → Bool} : ∀ n, (∀ i, i < n → D i = D' i) → cnt D n = cnt D' n
  | 0, _ => rfl
  | n + 1, h => by simp only [cnt]; rw [cnt_same n (fun i hi => h i (by omega)), h n (by omega)]
theorem cnt_step [E : Env] {D : Nat → Bool} {i : Nat} (hi : D i = false) : ∀ n, i < n → cnt D n = cnt (fun j => if j = i then true else D j) n + 1
  | 0, h => by omega
  | n + 1, h => by
    simp only [cnt]
    by_cases e : n = i
    · subst e
      rw [cnt_same (D := D) (D' := fun j => if j = n then true else D j) n (fun j hj => by simp [show j ≠ n by omega])]
      simp [hi]
    · rw [cnt_step hi n (by omega)]
      simp [e]; omega
theorem cnt_lt (m : Nat) : ∀ n, m ≤ n → cnt (fun i => decide (i < m)) n = n - m
  | 0, h => by simp [cnt]
  | n + 1, h => by
    simp only [cnt]
    by_cases e : m ≤ n
    · rw [cnt_lt m n e]; simp [show ¬ n < m by omega]; omega
    · have : m = n + 1 := by omega
      subst this
      have : ∀ k, k ≤ n + 1 → cnt (fun i => decide (i < n + 1)) k = 0 := fun k => by
        induction k with
        | zero => intro _; rfl
        | succ k ih => intro hk; simp only [cnt]; rw [ih (by omega)]; simp [show k < n + 1 by omega]
      rw [this n (by omega)]; simp
theorem cnt_pos [E : Env] {D : Nat → Bool} {i : Nat} (hi : D i = false) : ∀ n, i < n → 0 < cnt D n := fun n h => by rw [cnt_step hi n h]; omega

section
variable {P : Program} {w0 : World} {base lo : Nat} {ι ι0 ι1 ι2 : Inj} {H H1 H2 : Heap} {w w00 w1 w2 : World} {ex : ExF}
variable {ops : Array Oper} {bef : Array Nat}

theorem go_nil (fuel t : Nat) (listed : Array Bool) (h : Region.ready .any ops listed = []) : Region.linearise.go .any ops fuel t listed [] = [] := by
  cases fuel with
  | zero => rfl
  | succ fuel =>
    simp only [Region.linearise.go]
    change (match (Region.ready .any ops listed)[t % (Region.ready .any ops listed).length]? with
      | some i => Region.linearise.go .any ops fuel (t / (Region.ready .any ops listed).length) (listed.setIfInBounds i true) [i]
      | none => [].reverse) = _
    rw [h]; rfl

theorem seqOrder' [E : Env] (r : Order ops bef) (hbits : ∀ i j, (bef.getD i 0).testBit j = true → j < i) : ∀ (k j fuel t : Nat) (listed : Array Bool), listed.size = ops.size → j + k = ops.size → k ≤ fuel → (∀ i, i < ops.size → listed.getD i false = decide (i < j)) →
    (∀ i, j ≤ i → i < ops.size → afterAll (bef.getD i 0) i = true) → Region.linearise.go .any ops fuel t listed [] = List.range' j k
  | 0, j, fuel, t, listed, hs, hk, hf, hl, _ => by
    refine go_nil fuel t listed (List.eq_nil_iff_forall_not_mem.2 fun i hi => ?_)
    obtain ⟨o, ho, h1, _⟩ := (ready_iff hs).1 hi
    have hio : i < ops.size := (Array.getElem?_eq_some_iff.1 ho).1
    rw [hl i hio] at h1
    simp at h1; omega
  | k + 1, j, 0, t, listed, hs, hk, hf, hl, ha => by omega
  | k + 1, j, fuel + 1, t, listed, hs, hk, hf, hl, ha => by
    have hj : j < ops.size := by omega
    obtain ⟨i, t', hi, hgo⟩ := go_step ops fuel t listed (ready_ne r hs hj (by rw [hl j hj]; simp))
    obtain ⟨o, ho, h1, h2⟩ := (ready_iff hs).1 hi
    have hio : i < ops.size := (Array.getElem?_eq_some_iff.1 ho).1
    rw [hl i hio] at h1
    have hge : j ≤ i := by simpa using h1
    have hij : i = j := by
      apply Classical.byContradiction
      intro hne
      have hbit := (afterAll_iff _ i).1 (ha i hge hio) j (by omega)
      obtain ⟨e, he, hb, h⟩ := r.via i o j ho hbit
      have hlisted := h2 e he hb
      have hlt := r.back i o ho e he hb
      rw [hl e.on (by omega)] at hlisted
      have hej : e.on < j := by simpa using hlisted
      rcases h with h | h
      · omega
      · have := hbits _ _ h; omega
    subst hij
    rw [hgo, List.range'_succ]
    congr 1
    exact seqOrder' r hbits k (i + 1) fuel t' _ (by simpa using hs) (by omega) (by omega) (fun q hq => by
      rw [getD_set _ _ _ (by omega)]
      by_cases e : q = i
      · subst e; simp
      · rw [if_neg e, hl q hq]
        have : (q < i) ↔ (q < i + 1) := by omega
        simp [this]) (fun q h1 h2 => ha q (by omega) h2)

variable {e : Nat → List AV} {h : Nat → Heap} {kp : Nat → List (Nat × Nat × Nat)} {val : Nat → AV} {marks : List Nat}

theorem quiet_run [E : Env] (hN : Names P) (hS : Sound P w0 base ex) (hb : base ≤ w0.heap.size) (gl : GlobOK w0 base) {m : Nat} (hm : m = quietLen bef ops.size) (T : Trace P ex ops bef m e h kp val) (hr : raceFree ops bef = true) (r : Order ops bef) (hbits : ∀ i j, (bef.getD i 0).testBit j = true → j < i)
    (hOKe : ∀ v ∈ e 0, v.OK w0 base (h 0).next) (hOK0 : ∀ b x, (h 0).get b = some x → BlkOK w0 base (h 0).next x ∧ b < (h 0).next) (hmk : ∀ b ∈ marks, b < (h 0).next) (c : RC) (k : List Item) (cs : List Frame) :
    ∀ (fuel t : Nat) (listed : Array Bool) (D : Nat → Bool) (ι : Inj) (w : World) (a : Act), listed.size = ops.size → cnt D ops.size ≤ fuel → (∀ i, i < ops.size → listed.getD i false = D i) → Inv P w0 base ι0 w00 marks ops bef m e h val kp D ι w a →
    ∃ ι' w' a', Inv P w0 base ι0 w00 marks ops bef m e h val kp (fun i => decide (i < m)) ι' w' a' ∧
      Steps P (lone (F c a (.inRegion ops (Region.linearise.go .any ops fuel t listed []) :: k)) cs w) (lone (F c a' (.inRegion ops (List.range' m (ops.size - m)) :: k)) cs w') := by
  have hmn : m ≤ ops.size := by rw [hm]; exact quietLen_le bef _
  have hafter : ∀ i, m ≤ i → i < ops.size → afterAll (bef.getD i 0) i = true := fun i h1 h2 => quietLen_after bef ops.size i (by omega) h2
  intro fuel
  induction fuel with
  | zero =>
    intro t listed D ι w a hs hc hl I
    have hD : D = fun i => decide (i < m) := by
      funext i
      cases hDi : D i with
      | true => simp [I.dm i hDi]
      | false =>
        by_cases him : i < m
        · have := cnt_pos hDi ops.size (by omega); omega
        · simp [him]
    subst hD
    have := seqOrder' r hbits (ops.size - m) m 0 t listed hs (by omega) (by rw [cnt_lt m _ hmn] at hc; omega) hl hafter
    rw [this]
    exact ⟨ι, w, a, I, Steps.refl P _⟩
  | succ fuel ih =>
    intro t listed D ι w a hs hc hl I
    by_cases hall : ∀ i, i < m → D i = true
    · have hD : D = fun i => decide (i < m) := by
        funext i
        cases hDi : D i with
        | true => simp [I.dm i hDi]
        | false =>
          by_cases him : i < m
          · rw [hall i him] at hDi; cases hDi
          · simp [him]
      subst hD
      have := seqOrder' r hbits (ops.size - m) m (fuel + 1) t listed hs (by omega) (by rw [cnt_lt m _ hmn] at hc; omega) hl hafter
      rw [this]
      exact ⟨ι, w, a, I, Steps.refl P _⟩
    · have hex : ∃ i, i < m ∧ D i = false := by
        apply Classical.byContradiction
        intro hn
        apply hall
        intro i hi
        cases hDi : D i with
        | true => rfl
        | false => exact absurd ⟨i, hi, hDi⟩ hn
      obtain ⟨i0, hi0, hDi0⟩ := hex
      obtain ⟨i, t', hi, hgo⟩ := go_step ops fuel t listed (ready_ne r hs (i := i0) (by omega) (by rw [hl i0 (by omega)]; exact hDi0))
      obtain ⟨o, ho, h1, h2⟩ := (ready_iff hs).1 hi
      have hio : i < ops.size := (Array.getElem?_eq_some_iff.1 ho).1
      have hDi : D i = false := by rw [← hl i hio]; exact h1
      have hpre : ∀ j, (bef.getD i 0).testBit j = true → D j = true := by
        intro j hj
        obtain ⟨e', he', hb', h3⟩ := r.via i o j ho hj
        have hlt := r.back i o ho e' he' hb'
        have hDe : D e'.on = true := by rw [← hl e'.on (by omega)]; exact h2 e' he' hb'
        rcases h3 with rfl | h3
        · exact hDe
        · exact I.dc e'.on hDe j h3
      have him : i < m := by
        apply Classical.byContradiction
        intro hge
        have := (afterAll_iff _ i).1 (hafter i (by omega) hio) i0 (by omega)
        rw [hpre i0 this] at hDi0; cases hDi0
      rw [hgo]
      obtain ⟨ι1, w1, a1, hI, hst⟩ := I.step hN hS hb gl T hr hbits hOKe hOK0 hmk him hDi hpre c (Region.linearise.go .any ops fuel t' (listed.setIfInBounds i true) []) k cs
      obtain ⟨ι2, w2, a2, hI2, hst2⟩ := ih t' (listed.setIfInBounds i true) (fun j => if j = i then true else D j) ι1 w1 a1 (by simpa using hs) (by rw [cnt_step hDi ops.size hio] at hc; omega) (fun q hq => by
        rw [getD_set _ _ _ (by omega)]
        by_cases e1 : q = i
        · simp [e1]
        · simp only [e1, if_false]; exact hl q hq) hI
      exact ⟨ι2, w2, a2, hI2, hst.trans hst2⟩

theorem list_ext_get {l l' : List AV} (h : ∀ t : Nat, l[t]? = l'[t]?) : l = l' := List.ext_getElem? h

/-- a region whose order is open -/
theorem runDraw_sound [E : Env] (hN : Names P) (hm : P.follows .mixedOrders = true) (hS : Sound P w0 base ex) (s : Sim P w0 base ι H w) {ops : Array Oper} {env env' : List AV} {H' : Heap} (hd : runDraw P ex lo ops env H = some (env', H')) {a : Act} (hA : ARel w0 base lo ι H.next env marks a) (hlo : lo ≤ H.next)
    (c : RC) (id : Nat) (k : List Item) (cs : List Frame) :
    ∃ ι' w' a', Post P w0 base lo ι H w ι' H' w' ∧ ARel w0 base lo ι' H'.next env' marks a' ∧ Steps P (lone (F c a (.code (.region id ops true) :: k)) cs w) (lone (F c a' k) cs w') := by
  unfold runDraw at hd
  simp only at hd
  split at hd
  · rename_i hc
    simp only [Bool.and_eq_true] at hc
    obtain ⟨⟨hr, hedge⟩, hbef⟩ := hc
    have r := order_of hedge hbef
    have hbsz : (Region.before ops).size = ops.size := by
      simp only [befOk, Bool.and_eq_true, decide_eq_true_eq] at hbef; exact hbef.1
    have hbits := r.bits (fun i hi => by simp [Array.getD_eq_getD_getElem?, Array.getElem?_eq_none (show (Region.before ops).size ≤ i by omega)])
    split at hd
    · rename_i env1 H1 hq
      have hmn := quietLen_le (Region.before ops) ops.size
      generalize hmdef : quietLen (Region.before ops) ops.size = m at hd hq hmn
      obtain ⟨e, h, kp, val, e1, e2, e3, e4, e5, e6⟩ := runQuiet_trace ops (Region.before ops) (ops.toList.take m) 0 env H [] env1 H1 (fun j o hj => by
        rw [List.getElem?_take] at hj
        split at hj
        · simpa using hj
        · cases hj) hq
      have hlen : (ops.toList.take m).length = m := by simp; omega
      rw [hlen, Nat.zero_add] at e4 e5
      have T : Trace P ex ops (Region.before ops) m e h kp val := ⟨e3, fun j hj => e6 j (by omega) (by omega)⟩
      have hOKe : ∀ v ∈ e 0, v.OK w0 base (h 0).next := by rw [e1, e2]; exact hA.ok
      have hOK0 : ∀ b x, (h 0).get b = some x → BlkOK w0 base (h 0).next x ∧ b < (h 0).next := by rw [e2]; exact fun b x hx => ⟨s.ok b x hx, s.lt b x hx⟩
      have hmk : ∀ b ∈ marks, b < (h 0).next := by rw [e2]; exact fun b hb => (hA.marks b hb).2
      have hlive0 : ∀ b x, Live h m (fun _ => false) b x → H.get b = some x := by
        intro b x hL
        rcases hL with ⟨_, h2⟩ | ⟨_, _, h2, _⟩
        · rw [e2] at h2; exact h2
        · cases h2
      have hvalF : ∀ j t, valT ops (e 0) val (fun _ => false) j t = (e 0)[t]? := fun j t => by
        induction j with
        | zero => rfl
        | succ j ih => rw [valT, if_neg (by simp)]; exact ih
      have s' := s.drawn (w.drawn + 1)
      have I0 : Inv P w0 base ι { w with drawn := w.drawn + 1 } marks ops (Region.before ops) m e h val kp (fun _ => false) ι { w with drawn := w.drawn + 1 } a :=
        { dm := fun i hi => by cases hi
          dc := fun i hi => by cases hi
          tsz := by rw [hA.tmps, e1]; simp
          tm := fun t => by rw [hvalF, e1, hA.tmps]; simp
          vok := fun i hi => by cases hi
          vis := fun i hi => by cases hi
          dfs := hA.defers
          ext := fun _ _ => rfl
          below := s'.below
          inj := fun b b' x x' hx hx' => s'.inj b b' x x' (hlive0 b x hx) (hlive0 b' x' hx')
          lo := fun b x hx => s'.lo b x (hlive0 b x hx)
          rel := fun b x hx => s'.rel b x (hlive0 b x hx)
          bok := fun i b x hi => by cases hi
          size := Nat.le_refl _
          frame := fun _ _ => rfl
          fresh := fun i b x hi => by cases hi }
      have hsched : Region.schedule (P.follows .mixedOrders) ops (w.tape w.drawn (.order c.fn id)) = Region.linearise.go .any ops ops.size (w.tape w.drawn (.order c.fn id)) (Array.replicate ops.size false) [] := by
        simp [Region.schedule, hm, Region.linearise]
      obtain ⟨ι1, w1, a1, I, hst⟩ := quiet_run (ι0 := ι) (w00 := { w with drawn := w.drawn + 1 }) (marks := marks) hN hS s.hb s.gl hmdef.symm T hr r hbits hOKe hOK0 hmk c k cs ops.size (w.tape w.drawn (.order c.fn id)) (Array.replicate ops.size false) (fun _ => false) ι _ a (by simp) (by
          have : ∀ n, cnt (fun _ => false) n = n := fun n => by induction n with
            | zero => rfl
            | succ n ih => simp [cnt, ih]
          rw [this]; exact Nat.le_refl _) (fun i hi => by simp [Array.getD_eq_getD_getElem?, hi]) I0
      -- the heap behind the quiet part
      have hlt := T.lt (fun b x hx => (hOK0 b x hx).2)
      have hliveM : ∀ b x, H1.get b = some x → Live h m (fun i => decide (i < m)) b x := by
        intro b x hx
        rw [← e5] at hx
        by_cases hb0 : b < (h 0).next
        · exact .inl ⟨hb0, by rw [← (T.mono 0 m (by omega) (Nat.le_refl _)).2 b hb0]; exact hx⟩
        · have hown : ∀ q, q ≤ m → b < (h q).next → ∃ j, j < q ∧ (h j).next ≤ b ∧ b < (h (j + 1)).next := by
            intro q
            induction q with
            | zero => intro _ h6; omega
            | succ q ih =>
              intro hq h6
              by_cases h8 : b < (h q).next
              · obtain ⟨j, h9, h10⟩ := ih (by omega) h8
                exact ⟨j, by omega, h10⟩
              · exact ⟨q, by omega, by omega, h6⟩
          obtain ⟨j, h6, h7, h8⟩ := hown m (Nat.le_refl _) (hlt m (Nat.le_refl _) b x hx)
          exact .inr ⟨j, h6, by simp [h6], h7, h8, hx⟩
      have hn0 : H.next ≤ H1.next := by rw [← e2, ← e5]; exact (T.mono 0 m (by omega) (Nat.le_refl _)).1
      have p1 : Post P w0 base lo ι H w ι1 H1 w1 :=
        { sim := { below := I.below, hb := s.hb, gl := s.gl, inj := fun b b' x x' hx hx' => I.inj b b' x x' (hliveM b x hx) (hliveM b' x' hx'), lt := fun b x hx => by rw [← e5] at hx ⊢; exact hlt m (Nat.le_refl _) b x hx,
                   lo := fun b x hx => I.lo b x (hliveM b x hx), rel := fun b x hx => I.rel b x (hliveM b x hx),
                   ok := fun b x hx => by
                     rcases hliveM b x hx with ⟨h6, h7⟩ | ⟨j, h6, h7, h8, h9, h10⟩
                     · exact (hOK0 b x h7).1.mono (by rw [e2]; exact hn0)
                     · exact (I.bok j b x h7 h8 h9 h10).1.mono (by rw [← e5]; exact (T.mono (j + 1) m (by omega) (Nat.le_refl _)).1) }
          ext := fun b hb => I.ext b (by rw [e2]; exact hb)
          next := hn0
          keep := fun b hb => by rw [← e2, ← e5]; exact (T.mono 0 m (by omega) (Nat.le_refl _)).2 b (by rw [e2]; omega)
          alive := fun b x hb hx => ⟨x, by rw [← e2, ← (T.mono 0 m (by omega) (Nat.le_refl _)).2 b (by rw [e2]; exact hb), e5]; exact hx⟩
          size := I.size
          frame := fun q hq _ => I.frame q hq
          newr := fun b x hx hb => by
            rcases hliveM b x hx with ⟨h6, h7⟩ | ⟨j, h6, h7, h8, h9, h10⟩
            · rw [e2] at h6; omega
            · exact .inl (I.fresh j b x h7 h8 h9 h10) }
      have hA1 : ARel w0 base lo ι1 H1.next env1 marks a1 := by
        have hv : ∀ t, env1[t]? = valT ops (e 0) val (fun i => decide (i < m)) m t := fun t => by
          rw [← e4, (T.env m (Nat.le_refl _)).2 t]
          exact valT_same (e 0) t _ _ m (fun j hj _ => by simp [hj])
        refine ⟨?_, fun v hv' => ?_, I.dfs, fun b hb => ⟨(hA.marks b hb).1, by have := (hA.marks b hb).2; omega⟩⟩
        · apply Array.ext_getElem?
          intro t
          rw [I.tm t, ← hv t]
          simp
        · obtain ⟨t, ht⟩ := List.getElem?_of_mem hv'
          rw [hv t] at ht
          rcases valT_cases (e 0) _ t m v ht with h6 | ⟨j, h6, h7, rfl⟩
          · exact OK.mono (by rw [e2]; exact hn0) v (hOKe v h6)
          · exact OK.mono (by rw [← e5]; exact (T.mono (j + 1) m (by omega) (Nat.le_refl _)).1) _ (I.vok j h7)
      obtain ⟨ι2, w2, a2, hp2, hA2, hst2⟩ := runOps_sound hN hS ops marks c k cs (ops.toList.drop m) m env1 H1 env' H' ι1 w1 a1 (fun j => by rw [List.getElem?_drop]; simp) hd p1.sim hA1 (by omega)
      refine ⟨ι2, w2, a2, p1.trans hp2, hA2, ?_⟩
      have h7 : (ops.toList.drop m).length = ops.size - m := by simp
      rw [h7] at hst2
      refine Steps.head st_draw ?_
      rw [hsched]
      exact hst.trans (hst2.trans (.one st_regionEnd))
    · cases hd
  · cases hd
end
end Go.Ab
/-! The abstract interpreter is sound, 22: operations that change what is there, in an open order, 3: whole regions. Conditions: none. -/
set_option linter.unusedSimpArgs false
set_option linter.unusedVariables false
namespace Go.Ab
open Go Go.RowKit
section
variable {P : Program} {w0 : World} {base lo : Nat} {ι ι0 ι1 ι2 : Inj} {H H1 H2 : Heap} {w w00 w1 w2 : World} {ex : ExF}
variable {ops : Array Oper} {bef : Array Nat} {m : Nat} {W : Nat → List Nat} {e : Nat → List AV} {h : Nat → Heap} {kp : Nat → List (Nat × Nat × Nat)} {val : Nat → AV} {marks : List Nat} {D : Nat → Bool} {a : Act}

/-- what operation i reads is as the interpreter has it -/
theorem IL.needs [E : Env] (T : LT P ex lo ops bef m W e h kp val) (hr : raceFree ops bef = true) (hbits : ∀ i j, (bef.getD i 0).testBit j = true → j < i) (hOKe : ∀ v ∈ e 0, v.OK w0 base (h 0).next)
    (I : IL P w0 base lo ι0 w00 marks ops bef m W e h val kp D ι w a) {i : Nat} (hi : i < m) (hDi : D i = false) (hpre : ∀ j, (bef.getD i 0).testBit j = true → D j = true) {o : Oper} (ho : ops[i]? = some o) :
    ∀ t ∈ needs ops o, a.tmps[t]? = ((e i)[t]?).map (AV.conc ι) ∧ ∀ v, (e i)[t]? = some v → v.OK w0 base (h i).next := by
  intro t ht
  have W : ∀ j, j < m → j ≠ i → dstOf ops j = some t → (bef.getD i 0).testBit j = true ∨ (bef.getD j 0).testBit i = true := by
    intro j hj hne hd
    obtain ⟨oj, hoj, _⟩ := T.step j hj
    have hdoj : oj.dst = some t := by simpa [dstOf, hoj] using hd
    cases hb1 : (bef.getD i 0).testBit j with
    | true => exact .inl rfl
    | false =>
      cases hb2 : (bef.getD j 0).testBit i with
      | true => exact .inr rfl
      | false => exact absurd ht (raceFree_spec hr hoj ho hne hb2 hb1 t hdoj).1
  have v1 : valT ops (e 0) val D m t = valT ops (e 0) val D i t := valT_le D (e 0) t i m (by omega) (fun j h1 h2 hj hd => by
    have hji : j ≠ i := fun q => by rw [q, hDi] at hj; cases hj
    rcases W j h2 hji hd with hb | hb
    · have := hbits i j hb; omega
    · rw [I.dc j hj i hb] at hDi; cases hDi)
  have v2 : valT ops (e 0) val D i t = valT ops (e 0) val (fun _ => true) i t := valT_same (e 0) t _ _ i (fun j hj hd => by
    rcases W j (by omega) (by omega) hd with hb | hb
    · exact hpre j hb
    · have := hbits j i hb; omega)
  have he := (T.env i (by omega)).2 t
  refine ⟨by rw [I.tm t, v1, v2, he], fun v hv => ?_⟩
  rw [he, ← v2] at hv
  rcases valT_cases (e 0) D t i v hv with hm | ⟨j, h1, h2, rfl⟩
  · exact OK.mono (T.mono 0 i (by omega) (by omega)) v (hOKe v hm)
  · exact OK.mono (T.mono (j + 1) i (by omega) (by omega)) _ (I.vok j h2)

theorem IL.step [E : Env] (hN : Names P) (hS : Sound P w0 base ex) (hb : base ≤ w0.heap.size) (gl : GlobOK w0 base) (T : LT P ex lo ops bef m W e h kp val) (hr : raceFree ops bef = true) (hbits : ∀ i j, (bef.getD i 0).testBit j = true → j < i) (hOKe : ∀ v ∈ e 0, v.OK w0 base (h 0).next)
    (hOK0 : ∀ b x, (h 0).get b = some x → BlkOK w0 base (h 0).next x ∧ b < (h 0).next)
    (I : IL P w0 base lo ι0 w00 marks ops bef m W e h val kp D ι w a) (hmk : ∀ b ∈ marks, b < (h 0).next) (hlo : lo ≤ (h 0).next) {i : Nat} (hi : i < m) (hDi : D i = false) (hpre : ∀ j, (bef.getD i 0).testBit j = true → D j = true) (c : RC) (rest : List Nat) (k : List Item) (cs : List Frame) :
    ∃ ι' w' a', IL P w0 base lo ι0 w00 marks ops bef m W e h val kp (fun j => if j = i then true else D j) ι' w' a' ∧ Steps P (lone (F c a (.inRegion ops (i :: rest) :: k)) cs w) (lone (F c a' (.inRegion ops rest :: k)) cs w') := by
  obtain ⟨o, ho, hq, he⟩ := T.step i hi
  have hneeds := I.needs T hr hbits hOKe hi hDi hpre ho
  have hdst : dstOf ops i = o.dst := by simp [dstOf, ho]
  have hev : ∀ x ∈ o.op.operands, Ev w0 base (h i).next ι (e i) a.eval x := by
    intro x hx v hv
    cases x with
    | tmp t =>
      obtain ⟨h1, h2⟩ := hneeds t (List.mem_append.2 (.inl (List.mem_filterMap.2 ⟨.tmp t, by simpa using hx, rfl⟩)))
      simp only [evalO, Option.some.injEq] at hv
      subst hv
      simp only [Act.eval]
      cases ht : (e i)[t]? with
      | none => rw [ht] at h1; simp at h1; simp [List.getD, ht, h1, undef_conc, undefA, AV.OK, AV.OKL]; simp [AV.conc, AV.concL, undef]
      | some u => rw [ht] at h1; simp [List.getD, ht, h1]; exact h2 u ht
    | const v' => exact ⟨(ofVal_conc ι hv).symm, OK.mono (Nat.zero_le _) v (ofVal_OK hv)⟩
    | global g =>
      obtain ⟨h1, h2⟩ := gl g v hv
      exact ⟨(h2 ι).symm, OK.mono (Nat.zero_le _) v h1⟩
    | func f => simp only [evalO, Option.some.injEq] at hv; subst hv; simp [Act.eval, AV.conc, AV.concL, AV.OK, AV.OKL]
  have hwant : Region.wanted o (yielded ops a.tmps) = Region.wanted o (yieldedA ops (e i)) := by
    unfold Region.wanted
    cases hg : o.guard with
    | none => rfl
    | some g =>
      obtain ⟨j0, want⟩ := g
      simp only
      have : yielded ops a.tmps j0 = yieldedA ops (e i) j0 := by
        unfold yielded yieldedA
        cases hd : (ops[j0]?).bind (·.dst) with
        | none => rfl
        | some t =>
          obtain ⟨h1, _⟩ := hneeds t (List.mem_append.2 (.inr (by rw [hg]; simp [hd])))
          simp only [Option.bind_some, h1]
          cases ht : (e i)[t]? with
          | none => rfl
          | some v =>
            simp only [Option.map_some]
            cases v <;> try rfl
            rename_i b; cases b <;> rfl
      rw [this]
  have hlt := T.lt (fun b x hx => (hOK0 b x hx).2)
  have hkn : (killL (h i) (hl W bef m h kp i)).next = (h i).next := killL_next _ _
  have hview : ∀ b x, (killL (h i) (hl W bef m h kp i)).get b = some x → blkT W ops e h D m b = some x ∧ b < (h i).next := by
    intro b x hx
    rw [killL_get] at hx
    split at hx
    · cases hx
    · rename_i hnv
      have hb := hlt i (by omega) b x hx
      exact ⟨by rw [I.view T hbits hi hDi hpre hb hnv]; exact hx, hb⟩
  have sV : Sim P w0 base ι (killL (h i) (hl W bef m h kp i)) w :=
    { below := I.below, hb := hb, gl := gl, inj := fun b b' x x' hx hx' => I.inj b b' x x' (hview b x hx).1 (hview b' x' hx').1, lt := fun b x hx => by rw [hkn]; exact (hview b x hx).2,
      lo := fun b x hx => I.lob b x (hview b x hx).1, rel := fun b x hx => I.rel b x (hview b x hx).1,
      ok := fun b x hx => by
        rw [hkn]
        have hL := (hview b x hx).1
        rcases blkT_cases m hL with ⟨h1, h2⟩ | ⟨j, h1, h2, h3, h4⟩
        · exact (hOK0 b x h2).1.mono (T.mono 0 i (by omega) (by omega))
        · have haf := h3
          have hji : j < i := by
            have hne : j ≠ i := by rintro rfl; rw [h2] at hDi; cases hDi
            have hnv : b ∉ hl W bef m h kp i := by
              intro hh; rw [killL_get, if_pos hh] at hx; cases hx
            rcases T.ordered hi h1 hne (hview b x hx).2 hnv haf with k | k
            · exact hbits i j k
            · rw [I.dc j h2 i k] at hDi; cases hDi
          exact (I.bok j b x h2 haf h4).1.mono (T.mono (j + 1) i (by omega) (by omega)) }
  rcases hq with ⟨hw, hv, h1, h2⟩ | ⟨hw, V, hop, hok, h1, h2⟩
  · -- not wanted: nothing is changed
    have hsk := st_opSkip (P := P) (c := c) (a := a) (k := k) (cs := cs) (w := w) (ops := ops) (i := i) (rest := rest) (by rw [ho]; simp [hwant, hw])
    rw [ho] at hsk
    simp only [Option.bind_some] at hsk
    have hna : ∀ b, ¬ Af W ops e h i b := by
      rintro b ⟨o', ho', hw', _⟩
      rw [ho] at ho'; cases ho'
      rw [hw] at hw'; cases hw'
    obtain ⟨ι', hI⟩ := I.next T hr hbits hOKe hOK0 hmk hlo hi hDi hpre (V := killL (h i) (hl W bef m h kp i)) (ι1 := ι) (w1 := w) (by rw [hkn, h1]) (fun b hb => absurd hb (hna b)) (fun b hb hnv _ => by rw [killL_get, if_neg hnv])
      (by rw [hv]; simp [undefA, AV.all, AV.allL]) (fun b x hb => absurd hb (hna b)) (by rw [hv]; simp [undefA, AV.OK, AV.OKL]) (Post.refl sV)
    rw [hdst, hv, undef_conc] at hI
    exact ⟨ι', w, _, hI, .one hsk⟩
  · obtain ⟨ι1, w1, hp, hv, hst⟩ := opA_sound hN hS sV hop (by rw [hkn]; have := T.mono 0 i (by omega) (by omega); omega) c a (fun x hx => by rw [hkn]; exact hev x hx) ho (by rw [hwant]; exact hw) rest k cs
    have hnx : V.next = (h (i + 1)).next := h1.2.symm
    have hVb : ∀ b, b ∉ hl W bef m h kp i → (h (i + 1)).get b = V.get b := fun b hb => by rw [h1.1]; exact if_neg hb
    have haf : ∀ b, Af W ops e h i b → b ∈ W i ∨ ((h i).next ≤ b ∧ b < V.next) := by
      rintro b ⟨o', ho', _, hh⟩
      rw [hnx]; exact hh
    obtain ⟨ι', hI⟩ := I.next T hr hbits hOKe hOK0 hmk hlo hi hDi hpre hnx (fun b hb => (hVb b (T.af hi hb).1).symm) (fun b hb hnv hna => hok.same b hb (fun hw' => hna ⟨o, ho, hw, .inl hw'⟩) (by have : b ∉ hidL W bef m i (h i).next (kp i) := hnv; simpa using this))
      (by exact hok.val) (fun b x hb hx => by rw [hVb b (T.af hi hb).1] at hx; exact hok.new b x (haf b hb) hx) hv hp
    rw [hdst] at hI
    exact ⟨ι', w1, _, hI, hst⟩

theorem loud_run [E : Env] (hN : Names P) (hS : Sound P w0 base ex) (hb : base ≤ w0.heap.size) (gl : GlobOK w0 base) {m : Nat} (hm : m = quietLen bef ops.size) (T : LT P ex lo ops bef m W e h kp val) (hr : raceFree ops bef = true) (r : Order ops bef) (hbits : ∀ i j, (bef.getD i 0).testBit j = true → j < i)
    (hOKe : ∀ v ∈ e 0, v.OK w0 base (h 0).next) (hOK0 : ∀ b x, (h 0).get b = some x → BlkOK w0 base (h 0).next x ∧ b < (h 0).next) (hmk : ∀ b ∈ marks, b < (h 0).next) (hlo : lo ≤ (h 0).next) (c : RC) (k : List Item) (cs : List Frame) :
    ∀ (fuel t : Nat) (listed : Array Bool) (D : Nat → Bool) (ι : Inj) (w : World) (a : Act), listed.size = ops.size → cnt D ops.size ≤ fuel → (∀ i, i < ops.size → listed.getD i false = D i) → IL P w0 base lo ι0 w00 marks ops bef m W e h val kp D ι w a →
    ∃ ι' w' a', IL P w0 base lo ι0 w00 marks ops bef m W e h val kp (fun i => decide (i < m)) ι' w' a' ∧
      Steps P (lone (F c a (.inRegion ops (Region.linearise.go .any ops fuel t listed []) :: k)) cs w) (lone (F c a' (.inRegion ops (List.range' m (ops.size - m)) :: k)) cs w') := by
  have hmn : m ≤ ops.size := by rw [hm]; exact quietLen_le bef _
  have hafter : ∀ i, m ≤ i → i < ops.size → afterAll (bef.getD i 0) i = true := fun i h1 h2 => quietLen_after bef ops.size i (by omega) h2
  intro fuel
  induction fuel with
  | zero =>
    intro t listed D ι w a hs hc hl I
    have hD : D = fun i => decide (i < m) := by
      funext i
      cases hDi : D i with
      | true => simp [I.dm i hDi]
      | false =>
        by_cases him : i < m
        · have := cnt_pos hDi ops.size (by omega); omega
        · simp [him]
    subst hD
    have := seqOrder' r hbits (ops.size - m) m 0 t listed hs (by omega) (by rw [cnt_lt m _ hmn] at hc; omega) hl hafter
    rw [this]
    exact ⟨ι, w, a, I, Steps.refl P _⟩
  | succ fuel ih =>
    intro t listed D ι w a hs hc hl I
    by_cases hall : ∀ i, i < m → D i = true
    · have hD : D = fun i => decide (i < m) := by
        funext i
        cases hDi : D i with
        | true => simp [I.dm i hDi]
        | false =>
          by_cases him : i < m
          · rw [hall i him] at hDi; cases hDi
          · simp [him]
      subst hD
      have := seqOrder' r hbits (ops.size - m) m (fuel + 1) t listed hs (by omega) (by rw [cnt_lt m _ hmn] at hc; omega) hl hafter
      rw [this]
      exact ⟨ι, w, a, I, Steps.refl P _⟩
    · have hex : ∃ i, i < m ∧ D i = false := by
        apply Classical.byContradiction
        intro hn
        apply hall
        intro i hi
        cases hDi : D i with
        | true => rfl
        | false => exact absurd ⟨i, hi, hDi⟩ hn
      obtain ⟨i0, hi0, hDi0⟩ := hex
      obtain ⟨i, t', hi, hgo⟩ := go_step ops fuel t listed (ready_ne r hs (i := i0) (by omega) (by rw [hl i0 (by omega)]; exact hDi0))
      obtain ⟨o, ho, h1, h2⟩ := (ready_iff hs).1 hi
      have hio : i < ops.size := (Array.getElem?_eq_some_iff.1 ho).1
      have hDi : D i = false := by rw [← hl i hio]; exact h1
      have hpre : ∀ j, (bef.getD i 0).testBit j = true → D j = true := by
        intro j hj
        obtain ⟨e', he', hb', h3⟩ := r.via i o j ho hj
        have hlt := r.back i o ho e' he' hb'
        have hDe : D e'.on = true := by rw [← hl e'.on (by omega)]; exact h2 e' he' hb'
        rcases h3 with rfl | h3
        · exact hDe
        · exact I.dc e'.on hDe j h3
      have him : i < m := by
        apply Classical.byContradiction
        intro hge
        have := (afterAll_iff _ i).1 (hafter i (by omega) hio) i0 (by omega)
        rw [hpre i0 this] at hDi0; cases hDi0
      rw [hgo]
      obtain ⟨ι1, w1, a1, hI, hst⟩ := I.step hN hS hb gl T hr hbits hOKe hOK0 hmk hlo him hDi hpre c (Region.linearise.go .any ops fuel t' (listed.setIfInBounds i true) []) k cs
      obtain ⟨ι2, w2, a2, hI2, hst2⟩ := ih t' (listed.setIfInBounds i true) (fun j => if j = i then true else D j) ι1 w1 a1 (by simpa using hs) (by rw [cnt_step hDi ops.size hio] at hc; omega) (fun q hq => by
        rw [getD_set _ _ _ (by omega)]
        by_cases e1 : q = i
        · simp [e1]
        · simp only [e1, if_false]; exact hl q hq) hI
      exact ⟨ι2, w2, a2, hI2, hst.trans hst2⟩

/-- a region whose order is open, and whose operations may change what is there -/
theorem runLoud_sound [E : Env] (hN : Names P) (hm : P.follows .mixedOrders = true) (hS : Sound P w0 base ex) (s : Sim P w0 base ι H w) {ops : Array Oper} {env env' : List AV} {H' : Heap} {W : Nat → List Nat} (hd : runLoud P ex lo ops W env H = some (env', H')) {a : Act} (hA : ARel w0 base lo ι H.next env marks a) (hlo : lo ≤ H.next)
    (c : RC) (id : Nat) (k : List Item) (cs : List Frame) :
    ∃ ι' w' a', Post P w0 base lo ι H w ι' H' w' ∧ ARel w0 base lo ι' H'.next env' marks a' ∧ Steps P (lone (F c a (.code (.region id ops true) :: k)) cs w) (lone (F c a' k) cs w') := by
  unfold runLoud at hd
  simp only at hd
  split at hd
  · rename_i hc
    simp only [Bool.and_eq_true] at hc
    obtain ⟨⟨hr, hedge⟩, hbef⟩ := hc
    have r := order_of hedge hbef
    have hbsz : (Region.before ops).size = ops.size := by
      simp only [befOk, Bool.and_eq_true, decide_eq_true_eq] at hbef; exact hbef.1
    have hbits := r.bits (fun i hi => by simp [Array.getD_eq_getD_getElem?, Array.getElem?_eq_none (show (Region.before ops).size ≤ i by omega)])
    split at hd
    · rename_i env1 H1 hq
      have hmn := quietLen_le (Region.before ops) ops.size
      generalize hmdef : quietLen (Region.before ops) ops.size = m at hd hq hmn
      obtain ⟨e, h, kp, val, e1, e2, e3, e4, e5, e6⟩ := runL_trace ops (Region.before ops) m W (ops.toList.take m) 0 env H [] env1 H1 (fun j o hj => by
        rw [List.getElem?_take] at hj
        split at hj
        · simpa using hj
        · cases hj) hq
      have hlen : (ops.toList.take m).length = m := by simp; omega
      rw [hlen, Nat.zero_add] at e4 e5
      have T : LT P ex lo ops (Region.before ops) m W e h kp val := ⟨e3, fun j hj => e6 j (by omega) (by omega)⟩
      have hOKe : ∀ v ∈ e 0, v.OK w0 base (h 0).next := by rw [e1, e2]; exact hA.ok
      have hOK0 : ∀ b x, (h 0).get b = some x → BlkOK w0 base (h 0).next x ∧ b < (h 0).next := by rw [e2]; exact fun b x hx => ⟨s.ok b x hx, s.lt b x hx⟩
      have hmk : ∀ b ∈ marks, b < (h 0).next := by rw [e2]; exact fun b hb => (hA.marks b hb).2
      have hlive0 : ∀ b, blkT W ops e h (fun _ => false) m b = if b < H.next then H.get b else none := by
        intro b
        rw [blkT_le m (Nat.zero_le _) (fun j _ _ hd => by cases hd), blkT, e2]
      have hlive1 : ∀ b x, blkT W ops e h (fun _ => false) m b = some x → H.get b = some x := by
        intro b x hx
        rw [hlive0] at hx
        split at hx
        · exact hx
        · cases hx
      have hvalF : ∀ j t, valT ops (e 0) val (fun _ => false) j t = (e 0)[t]? := fun j t => by
        induction j with
        | zero => rfl
        | succ j ih => rw [valT, if_neg (by simp)]; exact ih
      have s' := s.drawn (w.drawn + 1)
      have I0 : IL P w0 base lo ι { w with drawn := w.drawn + 1 } marks ops (Region.before ops) m W e h val kp (fun _ => false) ι { w with drawn := w.drawn + 1 } a :=
        { dm := fun i hi => by cases hi
          dc := fun i hi => by cases hi
          tsz := by rw [hA.tmps, e1]; simp
          tm := fun t => by rw [hvalF, e1, hA.tmps]; simp
          vok := fun i hi => by cases hi
          vis := fun i hi => by cases hi
          dfs := hA.defers
          ext := fun _ _ => rfl
          below := s'.below
          inj := fun b b' x x' hx hx' => s'.inj b b' x x' (hlive1 b x hx) (hlive1 b' x' hx')
          lob := fun b x hx => s'.lo b x (hlive1 b x hx)
          rel := fun b x hx => s'.rel b x (hlive1 b x hx)
          bok := fun i b x hi => by cases hi
          size := Nat.le_refl _
          frame := fun _ _ _ => rfl
          fresh := fun b x hx hb => by have := s.lt b x (hlive1 b x hx); rw [e2] at hb; omega
          alive := fun b x hx hb => ⟨x, by rw [e2]; exact hlive1 b x hx⟩
          keep := fun b hb => by rw [hlive0, e2, if_pos (by omega)] }
      have hsched : Region.schedule (P.follows .mixedOrders) ops (w.tape w.drawn (.order c.fn id)) = Region.linearise.go .any ops ops.size (w.tape w.drawn (.order c.fn id)) (Array.replicate ops.size false) [] := by
        simp [Region.schedule, hm, Region.linearise]
      obtain ⟨ι1, w1, a1, I, hst⟩ := loud_run (ι0 := ι) (w00 := { w with drawn := w.drawn + 1 }) (marks := marks) hN hS s.hb s.gl hmdef.symm T hr r hbits hOKe hOK0 hmk (by rw [e2]; exact hlo) c k cs ops.size (w.tape w.drawn (.order c.fn id)) (Array.replicate ops.size false) (fun _ => false) ι _ a (by simp) (by
          have : ∀ n, cnt (fun _ => false) n = n := fun n => by induction n with
            | zero => rfl
            | succ n ih => simp [cnt, ih]
          rw [this]; exact Nat.le_refl _) (fun i hi => by simp [Array.getD_eq_getD_getElem?, hi]) I0
      -- the heap behind the quiet part
      have hlt := T.lt (fun b x hx => (hOK0 b x hx).2)
      have hliveM : ∀ b, b < H1.next → blkT W ops e h (fun i => decide (i < m)) m b = H1.get b := by
        intro b hb
        rw [← e5]
        exact T.blk m (Nat.le_refl _) (by rw [e5]; exact hb) (fun q hq _ => by simp [hq])
      have hlive2 : ∀ b x, H1.get b = some x → blkT W ops e h (fun i => decide (i < m)) m b = some x := by
        intro b x hx
        rw [hliveM b (by rw [← e5] at hx ⊢; exact hlt m (Nat.le_refl _) b x hx)]; exact hx
      have hn0 : H.next ≤ H1.next := by rw [← e2, ← e5]; exact T.mono 0 m (by omega) (Nat.le_refl _)
      have p1 : Post P w0 base lo ι H w ι1 H1 w1 :=
        { sim := { below := I.below, hb := s.hb, gl := s.gl, inj := fun b b' x x' hx hx' => I.inj b b' x x' (hlive2 b x hx) (hlive2 b' x' hx'), lt := fun b x hx => by rw [← e5] at hx ⊢; exact hlt m (Nat.le_refl _) b x hx,
                   lo := fun b x hx => I.lob b x (hlive2 b x hx), rel := fun b x hx => I.rel b x (hlive2 b x hx),
                   ok := fun b x hx => by
                     rcases blkT_cases m (hlive2 b x hx) with ⟨h6, h7⟩ | ⟨j, h6, h7, h8, h9⟩
                     · exact (hOK0 b x h7).1.mono (by rw [e2]; exact hn0)
                     · exact (I.bok j b x h7 h8 h9).1.mono (by rw [← e5]; exact T.mono (j + 1) m (by omega) (Nat.le_refl _)) }
          ext := fun b hb => I.ext b (by rw [e2]; exact hb)
          next := hn0
          keep := fun b hb => by rw [← hliveM b (by omega), ← e2]; exact I.keep b hb
          alive := fun b x hb hx => by rw [← e2]; exact I.alive b x (hlive2 b x hx) (by rw [e2]; exact hb)
          size := I.size
          frame := fun q hq hne => I.frame q hq (by rw [e2]; exact hne)
          newr := fun b x hx hb => by
            have := I.fresh b x (hlive2 b x hx) (by rw [e2]; exact hb)
            rw [e2] at this; exact this }
      have hA1 : ARel w0 base lo ι1 H1.next env1 marks a1 := by
        have hv : ∀ t, env1[t]? = valT ops (e 0) val (fun i => decide (i < m)) m t := fun t => by
          rw [← e4, (T.env m (Nat.le_refl _)).2 t]
          exact valT_same (e 0) t _ _ m (fun j hj _ => by simp [hj])
        refine ⟨?_, fun v hv' => ?_, I.dfs, fun b hb => ⟨(hA.marks b hb).1, by have := (hA.marks b hb).2; omega⟩⟩
        · apply Array.ext_getElem?
          intro t
          rw [I.tm t, ← hv t]
          simp
        · obtain ⟨t, ht⟩ := List.getElem?_of_mem hv'
          rw [hv t] at ht
          rcases valT_cases (e 0) _ t m v ht with h6 | ⟨j, h6, h7, rfl⟩
          · exact OK.mono (by rw [e2]; exact hn0) v (hOKe v h6)
          · exact OK.mono (by rw [← e5]; exact T.mono (j + 1) m (by omega) (Nat.le_refl _)) _ (I.vok j h7)
      obtain ⟨ι2, w2, a2, hp2, hA2, hst2⟩ := runOps_sound hN hS ops marks c k cs (ops.toList.drop m) m env1 H1 env' H' ι1 w1 a1 (fun j => by rw [List.getElem?_drop]; simp) hd p1.sim hA1 (by omega)
      refine ⟨ι2, w2, a2, p1.trans hp2, hA2, ?_⟩
      have h7 : (ops.toList.drop m).length = ops.size - m := by simp
      rw [h7] at hst2
      refine Steps.head st_draw ?_
      rw [hsched]
      exact hst.trans (hst2.trans (.one st_regionEnd))
    · cases hd
  · cases hd
theorem runD_sound [E : Env] (hN : Names P) (hm : P.follows .mixedOrders = true) (hS : Sound P w0 base ex) (s : Sim P w0 base ι H w) {ops : Array Oper} {env env' : List AV} {H' : Heap} {fn : FuncId} {id : Nat} (hd : runD P ex fn id lo ops env H = some (env', H')) {a : Act} (hA : ARel w0 base lo ι H.next env marks a) (hlo : lo ≤ H.next)
    (c : RC) (k : List Item) (cs : List Frame) :
    ∃ ι' w' a', Post P w0 base lo ι H w ι' H' w' ∧ ARel w0 base lo ι' H'.next env' marks a' ∧ Steps P (lone (F c a (.code (.region id ops true) :: k)) cs w) (lone (F c a' k) cs w') := by
  unfold runD at hd
  split at hd
  · exact runDraw_sound hN hm hS s hd hA hlo c id k cs
  · exact runLoud_sound hN hm hS s hd hA hlo c id k cs
end
end Go.Ab
/-! The abstract interpreter is sound, 19: code of every form; the interpreter at every depth; what it says of a call. Conditions: none. -/
set_option linter.unusedSimpArgs false
set_option linter.unusedVariables false
namespace Go.Ab
open Go Go.RowKit
section
variable {P : Program} {w0 : World} {base lo : Nat} {ι ι0 ι1 ι2 : Inj} {H H1 H2 : Heap} {w w00 w1 w2 : World} {ex : ExF}

theorem F_finishRange (c : RC) (a : Act) (l : Nat) (k : List Item) (v : Value) : (F c a (.inRangeFunc l :: k)).finish v = F c a (.endRangeFunc l :: k) := rfl
/-- a loop over a function -/
theorem rangeFunc_sound [E : Env] (hN : Names P) (hS : Sound P w0 base ex) {cx : Ctx} {st st' : St} {e : Ex} {f : Operand} {params : Array Tmp} {assign body : Code} (h : stepX P ex cx lo (.rangeFunc f params assign body) st = some (e, st'))
    (s : Sim P w0 base ι st.H w) {a : Act} (hA : ARel w0 base lo ι st.H.next st.env st.marks a) {c : RC} (hC : CRel ι st.H.next cx c) (hlo : lo ≤ st.H.next) (k : List Item) (cs : List Frame) :
    ∃ ι' w' a', Post P w0 base lo ι st.H w ι' st'.H w' ∧ ARel w0 base lo ι' st'.H.next st'.env st'.marks a' ∧ Reach P (lone (F c a (.code (.rangeFunc f params assign body) :: k)) cs w) c k cs e a' w' := by
  simp only [stepX] at h
  cases hfv : evalO st.env f with
  | none => simp [hfv] at h
  | some fv =>
  simp only [hfv] at h
  obtain ⟨ef, efOK⟩ := hA.ev s.gl f fv hfv
  -- where the calls that are deferred in its rounds lie
  have start : ∃ d marks H ι1 w1 mark, loopStart cx.rnd st.marks st.H = some (d, marks, H) ∧
      Post P w0 base lo ι st.H w ι1 H w1 ∧ d < H.next ∧ ARel w0 base lo ι1 H.next st.env marks ⟨a.tmps, mark ++ a.defers⟩ ∧
      (do let (defers, mark) ← (match c.rnd with
            | some l => do pure ((← Instr.getLoop l).defers, [])
            | none => do
              let r ← newObj (.deferred (some []))
              pure (r, [{ target := .collected r, args := #[] }]) : Sem (Nat × List Deferred))
          pure (defers, mark) : Sem (Nat × List Deferred)).run P w = .ok ((ι1 d).1, mark) w1 := by
    rcases hC.rnd with ⟨h1, h2⟩ | ⟨l, h1, h2, h3⟩
    · have hp := Post.alloc (lo := lo) s .dfr (.deferred (some [])) 0 trivial rfl hlo
      refine ⟨st.H.next, st.H.next :: st.marks, st.H.push .dfr, _, _, [markOf (ι.put st.H.next w.heap.size 0) st.H.next], by rw [h1]; rfl, hp, by simp, ?_, ?_⟩
      · have hA' := hA.ext hp.ext hp.next
        refine ⟨hA'.tmps, hA'.ok, ?_, fun b hb => ?_⟩
        · simp only [List.map_cons, List.singleton_append]
          congr 1
          exact hA'.defers
        · rcases List.mem_cons.1 hb with rfl | hb
          · exact ⟨hlo, by simp⟩
          · exact hA'.marks b hb
      · rw [h2]
        simp [newObj, Sem.run, markOf]
    · cases hq : loopStart cx.rnd st.marks st.H with
      | none => simp [hq] at h
      | some q =>
        rw [h1] at hq
        simp only [loopStart] at hq
        split at hq
        · rename_i st1 pend fn tmps params1 assign1 body1 d1 hl
          cases hq
          refine ⟨d1, st.marks, st.H, ι, w, [], by first | rfl | (rw [h1]; simp [loopStart, hl]), Post.refl s, (s.ok l _ hl).2, by simpa using hA, ?_⟩
          rw [h3]
          simp [(run_getLoop s hl).1]
        · cases hq
  obtain ⟨d, marks, H, ι1, w1, mark, hsel, hp1, hdlt, hA1, hrun1⟩ := start
  rw [hsel] at h
  simp only at h
  -- the loop's record
  have hp2 := Post.alloc (lo := lo) hp1.sim (.loop .ready none cx.fn st.env params.toList assign body d)
    (.loop { state := .ready, pending := none, fn := c.fn, tmps := a.tmps, params, assign, body, defers := (ι1 d).1 }) 0 ⟨hA1.ok, hdlt⟩
    (by have := hA1.tmps; simp only at this; simp [BlkRel, hC.fn, this]) (Nat.le_trans hlo hp1.next)
  have hl : ((ι1.put H.next w1.heap.size 0) H.next).1 = w1.heap.size := by rw [Inj.put_same]
  have henter : (Instr.enterLoop c.fn a.tmps params assign body c.rnd).run P w = .ok (w1.heap.size, mark) (w1.alloc (.loop { state := .ready, pending := none, fn := c.fn, tmps := a.tmps, params, assign, body, defers := (ι1 d).1 })) := by
    have hr := hrun1
    unfold Instr.enterLoop
    cases hcr : c.rnd with
    | none =>
      rw [hcr] at hr
      simp only [Sem.run_bind, Sem.run_pure] at hr ⊢
      cases hx : (newObj (.deferred (some []))).run P w with
      | ok r w' =>
        rw [hx] at hr
        simp only [Result.andThen_ok, Result.ok.injEq, Prod.mk.injEq] at hr
        obtain ⟨⟨h1, h2⟩, h3⟩ := hr
        subst h1; subst h3
        simp only [Result.andThen_ok]
        simp [newObj, Sem.run, h2]
      | halt q w' => rw [hx] at hr; simp at hr
    | some l =>
      rw [hcr] at hr
      simp only [Sem.run_bind, Sem.run_pure] at hr ⊢
      cases hx : (Instr.getLoop l).run P w with
      | ok r w' =>
        rw [hx] at hr
        simp only [Result.andThen_ok, Result.ok.injEq, Prod.mk.injEq] at hr
        obtain ⟨⟨h1, h2⟩, h3⟩ := hr
        subst h2; subst h3
        simp only [Result.andThen_ok]
        simp [newObj, Sem.run, h1]
      | halt q w' => rw [hx] at hr; simp at hr
  clear hrun1 hsel
  generalize hW2 : (w1.alloc (.loop { state := .ready, pending := none, fn := c.fn, tmps := a.tmps, params, assign, body, defers := (ι1 d).1 })) = W2 at hp2 henter
  generalize hι2 : ι1.put H.next w1.heap.size 0 = ι2 at hp2 hl
  clear hW2 hι2
  split at h
  · rename_i r H' hcall
    cases fv <;> simp only at hcall <;> try (cases hcall; done)
    rename_i g first cap
    have efOK1 := OK.mono (Nat.le_trans hp1.next (Nat.le_succ _)) _ efOK
    simp only [AV.OK] at efOK1
    obtain ⟨fn, fbody, hf, hb⟩ := callA_body hcall
    have hext2 : ∀ b, b < st.H.next → ι2 b = ι b := fun b hb => (hp1.trans hp2).ext b hb
    have ef2 : a.eval f = (AV.func g first cap).conc ι2 := by rw [ef]; exact (conc_ext hext2 _ efOK).symm
    have h2 : (do let d ← resolve a.eval { callee := .value f, args := #[.const (.func (.yield w1.heap.size) #[] #[])], argTypes := #[] } 0; invoke d.target d.args : Sem Next).run P
        W2 = .ok (.enter g ((first ++ [AV.yieldf H.next] ++ cap).map (AV.conc ι2)).toArray) W2 := by
      simp only [resolve, ef2, AV.conc, Deferred.ofValue, pure_bind, invoke, concL_eq]
      rw [run_callFunc hN hf hb]
      congr 2
      apply Array.ext'
      simp [Act.eval, AV.conc, hl]
    obtain ⟨ι3, w3, fr, hp3, hv3, hst3, hleave, _⟩ := callA_sound hN.summ hS hp2.sim hcall (fun x hx => by
      rcases List.mem_append.1 hx with hx | hx
      · rcases List.mem_append.1 hx with hx | hx
        · exact (OKL_iff ..).1 efOK1.1 x hx
        · rw [List.mem_singleton.1 hx]; simp [AV.OK]
      · exact (OKL_iff ..).1 efOK1.2 x hx) (Nat.le_trans hlo (Nat.le_trans hp1.next (Nat.le_succ _))) (F c ⟨a.tmps, mark ++ a.defers⟩ (.inRangeFunc w1.heap.size :: k) :: cs)
    have hl3 : (ι3 H.next).1 = w1.heap.size := by rw [hp3.ext H.next (by simp)]; exact hl
    split at h
    · rename_i st1 pend fn1 tmps1 params1 assign1 body1 d1 hloop
      split at h
      · cases h
      · rename_i hbusy
        obtain ⟨hg1, hg2⟩ := run_getLoop hp3.sim hloop
        have hp4 := Post.drop (lo := lo) hp3.sim hloop { w3 with heap := w3.heap.setIfInBounds (ι3 H.next).1 (.loop { state := .exhausted, pending := pend, fn := fn1, tmps := (tmps1.map (AV.conc ι3)).toArray, params := params1.toArray, assign := assign1, body := body1, defers := (ι3 d1).1 }) }
          (Nat.le_trans hlo hp1.next) ⟨rfl, rfl, rfl, by simp⟩ (fun r hr => Array.getElem?_setIfInBounds_ne (fun q => hr q.symm))
        have hend : (Instr.endLoop w1.heap.size).run P w3 = .ok pend { w3 with heap := w3.heap.setIfInBounds (ι3 H.next).1 (.loop { state := .exhausted, pending := pend, fn := fn1, tmps := (tmps1.map (AV.conc ι3)).toArray, params := params1.toArray, assign := assign1, body := body1, defers := (ι3 d1).1 }) } := by
          rw [← hl3]
          have hb' : (st1 == LoopState.busy) = false := by cases st1 <;> first | rfl | exact absurd rfl hbusy
          simp only [Instr.endLoop, Sem.run_bind, hg1, Result.andThen_ok, hb', Bool.false_eq_true, if_false, Sem.run_pure]
          rw [run_setObj _ _ _ hg2 (by simp)]
          rfl
        generalize hWf : ({ w3 with heap := w3.heap.setIfInBounds (ι3 H.next).1 (.loop { state := .exhausted, pending := pend, fn := fn1, tmps := (tmps1.map (AV.conc ι3)).toArray, params := params1.toArray, assign := assign1, body := body1, defers := (ι3 d1).1 }) } : World) = Wf at hp4 hend
        clear hWf
        have hsteps : Steps P (lone (F c a (.code (.rangeFunc f params assign body) :: k)) cs w) (lone (F c ⟨a.tmps, mark ++ a.defers⟩ ((pend.map Item.code).toList ++ k)) cs Wf) :=
          by
            have q1 := st_rangeCall (P := P) (k := k) (cs := cs) henter h2
            have q2 := st_leave (d := F c ⟨a.tmps, mark ++ a.defers⟩ (.inRangeFunc w1.heap.size :: k)) (ds := cs) hleave
            rw [F_finishRange] at q2
            have q3 := st_endLoop (P := P) (c := c) (a := ⟨a.tmps, mark ++ a.defers⟩) (k := k) (cs := cs) hend
            exact Steps.head q1 (hst3.trans (Steps.head q2 (.one q3)))
        have hp := ((hp1.trans hp2).trans hp3).trans hp4
        have hAf : ARel w0 base lo ι3 (H'.kill H.next).next st.env marks ⟨a.tmps, mark ++ a.defers⟩ := (hA1.ext hp2.ext hp2.next).ext hp3.ext hp3.next
        cases pend with
        | none =>
          simp only at h
          cases h
          exact ⟨ι3, _, _, hp, hAf, hsteps⟩
        | some j =>
          cases j <;> simp only at h <;> try (cases h; done)
          · cases h; exact ⟨ι3, _, _, hp, hAf, k, rfl, hsteps⟩
          · cases h; exact ⟨ι3, _, _, hp, hAf, k, hsteps⟩
    · cases h
  · cases h

theorem Reach.inLoop [E : Env] {x : Code} {c : RC} {a a' : Act} {k : List Item} {cs : List Frame} {e : Ex} {w' : World} (h : Reach P (lone (F c a (.code (.loop x) :: k)) cs w) c k cs e a' w') : Reach P (lone (F c a (.inLoop x :: k)) cs w) c k cs e a' w' := by
  have key : ∀ (a2 : Act) (k2 : List Item), k2 ≠ .code (.loop x) :: k → Steps P (lone (F c a (.code (.loop x) :: k)) cs w) (lone (F c a2 k2) cs w') → Steps P (lone (F c a (.inLoop x :: k)) cs w) (lone (F c a2 k2) cs w') := by
    intro a2 k2 hne hs
    obtain ⟨n, hn⟩ := hs
    cases n with
    | zero =>
      simp only [runN, Stepped.next.injEq] at hn
      have := congrArg (fun m : Machine => (m.gs[0]?).map (·.frame.todo)) hn
      simp [lone, F] at this
      exact absurd this.symm hne
    | succ n =>
      rw [runN, st_loop] at hn
      exact Steps.head st_inLoop ⟨n, hn⟩
  cases e with
  | normal => exact key a' k (fun q => by have := congrArg List.length q; simp at this) h
  | exit id => obtain ⟨k1, hk, hs⟩ := h; exact ⟨k1, hk, key a' _ (by simp) hs⟩
  | ret => obtain ⟨k1, hs⟩ := h; exact ⟨k1, key a' _ (by simp) hs⟩
  | panic v => exact h

theorem stepX_sound [E : Env] (hN : Names P) (hm : P.follows .mixedOrders = true) (hS : Sound P w0 base ex) : Sound P w0 base (stepX P ex) := by
  intro cx lo code st e st' h ι w a c s hA hC hlo k cs
  cases code with
  | skip => simp only [stepX] at h; cases h; exact ⟨ι, w, a, Post.refl s, hA, .one st_skip⟩
  | ret => simp only [stepX] at h; cases h; exact ⟨ι, w, a, Post.refl s, hA, k, Steps.refl P _⟩
  | exit id => simp only [stepX] at h; cases h; exact ⟨ι, w, a, Post.refl s, hA, k, rfl, Steps.refl P _⟩
  | region id ops draw =>
    simp only [stepX] at h
    cases draw with
    | true =>
      simp only [if_true] at h
      split at h
      · rename_i env H hd
        cases h
        obtain ⟨ι', w', a', h1, h2, h3⟩ := runD_sound hN hm hS s hd hA hlo c k cs
        exact ⟨ι', w', a', h1, h2, h3⟩
      · cases h
    | false =>
      simp only [Bool.false_eq_true, if_false] at h
      split at h
      · rename_i env H hd
        cases h
        obtain ⟨ι', w', a', h1, h2, h3⟩ := runOps_sound hN hS ops st.marks c k cs ops.toList 0 st.env st.H env H ι w a (fun j => by simp) hd s hA hlo
        refine ⟨ι', w', a', h1, h2, ?_⟩
        refine Steps.head st_region ?_
        rw [List.range_eq_range', ← Array.length_toList]
        exact h3.trans (.one st_regionEnd)
      · cases h
  | seq x y =>
    simp only [stepX] at h
    split at h
    · rename_i st1 h1
      obtain ⟨ι1, w1, a1, p1, hA1, r1⟩ := hS _ _ _ _ _ _ h1 ι w a c s hA hC hlo (.code y :: k) cs
      obtain ⟨ι2, w2, a2, p2, hA2, r2⟩ := hS _ _ _ _ _ _ h ι1 w1 a1 c p1.sim hA1 (hC.ext p1.ext p1.next) (Nat.le_trans hlo p1.next) k cs
      exact ⟨ι2, w2, a2, p1.trans p2, hA2, r2.of_steps (Steps.head st_seq r1)⟩
    · rename_i hne
      obtain ⟨ι1, w1, a1, p1, hA1, r1⟩ := hS _ _ _ _ _ _ h ι w a c s hA hC hlo (.code y :: k) cs
      refine ⟨ι1, w1, a1, p1, hA1, ?_⟩
      cases e with
      | normal => exact absurd h (hne st')
      | exit id => obtain ⟨k1, hk, hs⟩ := r1; exact ⟨k1, hk, Steps.head st_seq hs⟩
      | ret => obtain ⟨k1, hs⟩ := r1; exact ⟨k1, Steps.head st_seq hs⟩
      | panic v => exact r1
  | cond o x y =>
    simp only [stepX] at h
    split at h
    · rename_i t ht
      obtain ⟨ι1, w1, a1, p1, hA1, r1⟩ := hS _ _ _ _ _ _ h ι w a c s hA hC hlo k cs
      have hev := (hA.ev s.gl o _ ht).1
      exact ⟨ι1, w1, a1, p1, hA1, r1.of_steps (.one (st_cond hev))⟩
    · cases h
  | block id x =>
    simp only [stepX] at h
    split at h
    · rename_i id' st1 h1
      cases h
      obtain ⟨ι1, w1, a1, p1, hA1, k1, hk, hs⟩ := hS _ _ _ _ _ _ h1 ι w a c s hA hC hlo (.inBlock id :: k) cs
      refine ⟨ι1, w1, a1, p1, hA1, ?_⟩
      by_cases e1 : id' = id
      · subst e1
        simp only [if_true]
        have : exitTo id' k1 = some k := by rw [hk]; simp [exitTo]
        exact Steps.head st_block (hs.trans (.one (st_exit this)))
      · simp only [e1, if_false]
        refine ⟨k1, ?_, Steps.head st_block hs⟩
        rw [hk]
        have : (id == id') = false := by simp; exact fun q => e1 q.symm
        simp [exitTo, this]
    · rename_i hne
      obtain ⟨ι1, w1, a1, p1, hA1, r1⟩ := hS _ _ _ _ _ _ h ι w a c s hA hC hlo (.inBlock id :: k) cs
      refine ⟨ι1, w1, a1, p1, hA1, ?_⟩
      cases e with
      | normal => exact Steps.head st_block (Steps.trans r1 (.one st_inBlock))
      | exit id' => exact absurd h (hne id' st')
      | ret => obtain ⟨k1, hs⟩ := r1; exact ⟨k1, Steps.head st_block hs⟩
      | panic v => exact r1
  | loop x =>
    simp only [stepX] at h
    split at h
    · rename_i st1 h1
      obtain ⟨ι1, w1, a1, p1, hA1, r1⟩ := hS _ _ _ _ _ _ h1 ι w a c s hA hC hlo (.inLoop x :: k) cs
      obtain ⟨ι2, w2, a2, p2, hA2, r2⟩ := hS _ _ _ _ _ _ h ι1 w1 a1 c p1.sim hA1 (hC.ext p1.ext p1.next) (Nat.le_trans hlo p1.next) k cs
      exact ⟨ι2, w2, a2, p1.trans p2, hA2, r2.inLoop.of_steps (Steps.head st_loop r1)⟩
    · rename_i hne
      obtain ⟨ι1, w1, a1, p1, hA1, r1⟩ := hS _ _ _ _ _ _ h ι w a c s hA hC hlo (.inLoop x :: k) cs
      refine ⟨ι1, w1, a1, p1, hA1, ?_⟩
      cases e with
      | normal => exact absurd h (hne st')
      | exit id => obtain ⟨k1, hk, hs⟩ := r1; exact ⟨k1, hk, Steps.head st_loop hs⟩
      | ret => obtain ⟨k1, hs⟩ := r1; exact ⟨k1, Steps.head st_loop hs⟩
      | panic v => exact r1
  | rangeFunc f params assign body => exact rangeFunc_sound hN hS h s hA hC hlo k cs
  | _ => simp [stepX] at h

theorem exec_sound [E : Env] (hN : Names P) (hm : P.follows .mixedOrders = true) : ∀ n, Sound P w0 base (exec P n)
  | 0 => by intro cx lo code st e st' h; rw [exec_zero] at h; cases h
  | n + 1 => by rw [exec_succ]; exact stepX_sound hN hm (exec_sound hN hm n)

/-- what the interpreter says of a call that begins with nothing of its own -/
theorem run_sound [E : Env] (hN : Names P) (hm : P.follows .mixedOrders = true) {n : Nat} {f : FuncId} {args : List AV} {v : AV} {H' : Heap} (h : callA P (exec P n) 0 f args Heap.empty = some (v, H')) (w : World) (gl : GlobOK w w.heap.size) (hargs : ∀ a ∈ args, a.OK w w.heap.size 0) (ι : Inj) :
    Calls P f (args.map (AV.conc ι)).toArray w fun e w' => (∃ ι', e = .returned (v.conc ι')) ∧ Below w.heap.size w w' := by
  intro cs
  have s : Sim P w w.heap.size ι Heap.empty w :=
    { below := Below.refl _ _, hb := Nat.le_refl _, gl := gl, inj := (fun b b' x x' hx => by rw [Heap.get_empty] at hx; cases hx), lt := (fun b x hx => by rw [Heap.get_empty] at hx; cases hx),
      lo := (fun b x hx => by rw [Heap.get_empty] at hx; cases hx), ok := (fun b x hx => by rw [Heap.get_empty] at hx; cases hx), rel := (fun b x hx => by rw [Heap.get_empty] at hx; cases hx) }
  obtain ⟨ι', w', fr, h1, h2, h3, h4, h5⟩ := callA_sound hN.summ (exec_sound hN hm n) s h hargs (Nat.zero_le _) cs
  exact ⟨.returned (v.conc ι'), w', fr, ⟨⟨ι', rfl⟩, h1.sim.below⟩, h3, h5, h4⟩
end
end Go.Ab
/-! The abstract interpreter: summaries that are added; steps of symbolic runs. Conditions: none. -/
set_option linter.unusedSimpArgs false
set_option linter.unusedVariables false
namespace Go.Ab
open Go Go.RowKit

/-- one more function whose calls are told by what is proved of them -/
@[instance_reducible] def Env.add (E : Env) (f0 : FuncId) (S : List AV → Option AV) : Env := ⟨E.glob, fun f args => if f = f0 then S args else E.summ f args, E.hint⟩

mutual
/-- a value without own memory in it is the same in each numbering -/
theorem conc_rf (ι ι' : Inj) : ∀ v : AV, v.rf = true → v.conc ι' = v.conc ι
  | .bool _, _ | .int _ _, _ | .str _, _ | .nilp, _ | .nilf, _ | .nili, _ | .map none, _ | .rptr _ _, _ | .rsl _ _ _ _, _ => rfl
  | .ptr _ _, k | .sl _ _ _ _, k | .map (some _), k | .yieldf _, k => by simp [AV.rf] at k
  | .func _ a b, k => by simp only [AV.rf, Bool.and_eq_true] at k; simp only [AV.conc, concL_rf ι ι' a k.1, concL_rf ι ι' b k.2]
  | .iface _ v, k => by simp only [AV.rf] at k; simp only [AV.conc, conc_rf ι ι' v k]
  | .agg l, k | .tup l, k => by simp only [AV.rf] at k; simp only [AV.conc, concL_rf ι ι' l k]
theorem concL_rf (ι ι' : Inj) : ∀ l : List AV, AV.rfL l = true → AV.concL ι' l = AV.concL ι l
  | [], _ => rfl
  | v :: vs, k => by simp only [AV.rfL, Bool.and_eq_true] at k; simp only [AV.concL, conc_rf ι ι' v k.1, concL_rf ι ι' vs k.2]
end

theorem SummOK.add {E : Env} {P : Program} (hN : Names P) (hm : P.follows .mixedOrders = true) {f0 : FuncId} {S : List AV → Option AV}
    (h : ∀ args v, S args = some v → v.rf = true ∧ (∃ n H', callA P (exec P n) 0 f0 args Heap.empty = some (v, H')) ∧ ∀ w0 base, AV.OKL w0 base 0 args → v.OK w0 base 0) : @SummOK (E.add f0 S) P := by
  intro f args v hs hrf
  change (if f = f0 then S args else E.summ f args) = some v at hs
  split at hs
  · rename_i e
    subst e
    obtain ⟨h1, ⟨n, H', h2⟩, h3⟩ := h args v hs
    refine ⟨h3, fun w ι gl hok => ?_⟩
    refine (run_sound hN hm h2 w gl ((OKL_iff ..).1 hok) ι).mono fun e w' ⟨⟨ι', he⟩, hb⟩ => ⟨?_, hb⟩
    rw [he, conc_rf ι ι' v h1]
  · exact hN.summ f args v hs hrf
theorem Names.add {E : Env} {P : Program} (hN : Names P) (hm : P.follows .mixedOrders = true) {f0 : FuncId} {S : List AV → Option AV}
    (h : ∀ args v, S args = some v → v.rf = true ∧ (∃ n H', callA P (exec P n) 0 f0 args Heap.empty = some (v, H')) ∧ ∀ w0 base, AV.OKL w0 base 0 args → v.OK w0 base 0) : @Names (E.add f0 S) P :=
  @Names.mk (E.add f0 S) P hN.names (SummOK.add hN hm h)

section
variable {P : Program} {n : Nat} {cx : Ctx} {lo : Nat} {st : St}
theorem ex_seq [E : Env] {a b : Code} : exec P (n + 1) cx lo (.seq a b) st = (match exec P n cx lo a st with | some (.normal, st) => exec P n cx lo b st | r => r) := rfl
theorem ex_ret [E : Env] : exec P (n + 1) cx lo .ret st = some (.ret, st) := rfl
theorem ex_exit [E : Env] {i : Nat} : exec P (n + 1) cx lo (.exit i) st = some (.exit i, st) := rfl
theorem ex_skip [E : Env] : exec P (n + 1) cx lo .skip st = some (.normal, st) := rfl
theorem ex_cond [E : Env] {x : Operand} {a b : Code} : exec P (n + 1) cx lo (.cond x a b) st = (match evalO st.env x with
    | some (.bool t) => exec P n cx lo (if t then a else b) st
    | _ => none) := rfl
theorem ex_block [E : Env] {i : Nat} {a : Code} : exec P (n + 1) cx lo (.block i a) st = (match exec P n cx lo a st with
    | some (.exit id', st) => some (if id' = i then .normal else .exit id', st)
    | r => r) := rfl
theorem ex_loop [E : Env] {a : Code} : exec P (n + 1) cx lo (.loop a) st = (match exec P n cx lo a st with
    | some (.normal, st) => exec P n cx lo (.loop a) st
    | r => r) := rfl
theorem ex_region [E : Env] {i : Nat} {ops : Array Oper} : exec P (n + 1) cx lo (.region i ops false) st = (match runOps P (exec P n) lo ops ops.toList st.env st.H with | some (env, H) => some (.normal, ⟨env, st.marks, H⟩) | none => none) := rfl
theorem ex_draw [E : Env] {i : Nat} {ops : Array Oper} : exec P (n + 1) cx lo (.region i ops true) st = (match runD P (exec P n) cx.fn i lo ops st.env st.H with | some (env, H) => some (.normal, ⟨env, st.marks, H⟩) | none => none) := rfl
end
end Go.Ab
/-! The abstract interpreter: steps of symbolic runs, for 'simp': what comes behind is not touched before what stands ahead is known. Conditions: none. -/
set_option linter.unusedSimpArgs false
set_option linter.unusedVariables false
namespace Go.Ab
open Go Go.RowKit

/-- what comes behind a run that ends normally -/
def nxt (r : Option (Ex × St)) (k : St → Option (Ex × St)) : Option (Ex × St) := match r with | some (.normal, st) => k st | r => r
@[congr] theorem nxt_congr {r r' : Option (Ex × St)} {k : St → Option (Ex × St)} (h : r = r') : nxt r k = nxt r' k := by rw [h]
theorem nxt_normal {st : St} {k : St → Option (Ex × St)} : nxt (some (.normal, st)) k = k st := id rfl
theorem nxt_ret {st : St} {k : St → Option (Ex × St)} : nxt (some (.ret, st)) k = some (.ret, st) := id rfl
theorem nxt_exit {st : St} {i : Nat} {k : St → Option (Ex × St)} : nxt (some (.exit i, st)) k = some (.exit i, st) := id rfl
def blk (i : Nat) (r : Option (Ex × St)) : Option (Ex × St) := match r with | some (.exit id', st) => some (if id' = i then .normal else .exit id', st) | r => r
theorem blk_normal {st : St} {i : Nat} : blk i (some (.normal, st)) = some (.normal, st) := id rfl
theorem blk_ret {st : St} {i : Nat} : blk i (some (.ret, st)) = some (.ret, st) := id rfl
theorem blk_exit {st : St} {i : Nat} : blk i (some (.exit i, st)) = some (.normal, st) := by simp [blk]
theorem blk_exit_ne {st : St} {i j : Nat} (h : j ≠ i) : blk i (some (.exit j, st)) = some (.exit j, st) := by simp [blk, h]
def reg (m : List Nat) (r : Option (List AV × Heap)) : Option (Ex × St) := match r with | some (env, H) => some (.normal, ⟨env, m, H⟩) | none => none
theorem reg_some {m : List Nat} {env : List AV} {H : Heap} : reg m (some (env, H)) = some (.normal, ⟨env, m, H⟩) := id rfl
def cnd (x : Option AV) (a b : Unit → Option (Ex × St)) : Option (Ex × St) := match x with | some (.bool true) => a () | some (.bool false) => b () | _ => none
@[congr] theorem cnd_congr {x x' : Option AV} {a b : Unit → Option (Ex × St)} (h : x = x') : cnd x a b = cnd x' a b := by rw [h]
theorem cnd_true {a b : Unit → Option (Ex × St)} : cnd (some (.bool true)) a b = a () := id rfl
theorem cnd_false {a b : Unit → Option (Ex × St)} : cnd (some (.bool false)) a b = b () := id rfl
/-- an operation and what comes behind it -/
def opr (r : Option (AV × Heap)) (k : AV → Heap → Option (List AV × Heap)) : Option (List AV × Heap) := match r with | some (v, H) => k v H | none => none
@[congr] theorem opr_congr {r r' : Option (AV × Heap)} {k : AV → Heap → Option (List AV × Heap)} (h : r = r') : opr r k = opr r' k := by rw [h]
theorem opr_some {v : AV} {H : Heap} {k : AV → Heap → Option (List AV × Heap)} : opr (some (v, H)) k = k v H := id rfl
def grd (b : Bool) (x y : Unit → Option (List AV × Heap)) : Option (List AV × Heap) := match b with | true => x () | false => y ()
@[congr] theorem grd_congr {b b' : Bool} {x y : Unit → Option (List AV × Heap)} (h : b = b') : grd b x y = grd b' x y := by rw [h]
theorem grd_true {x y : Unit → Option (List AV × Heap)} : grd true x y = x () := id rfl
theorem grd_false {x y : Unit → Option (List AV × Heap)} : grd false x y = y () := id rfl

section
/-- what comes behind, in a form into which 'simp' does not go -/
noncomputable def Kx [E : Env] (P : Program) (n : Nat) (cx : Ctx) (lo : Nat) (c : Code) (st : St) : Option (Ex × St) := exec P n cx lo c st
noncomputable def Ku [E : Env] (P : Program) (n : Nat) (cx : Ctx) (lo : Nat) (c : Code) (st : St) (_ : Unit) : Option (Ex × St) := exec P n cx lo c st
noncomputable def Ko [E : Env] (P : Program) (ex : ExF) (lo : Nat) (ops : Array Oper) (rest : List Oper) (env : List AV) (d : Option Tmp) (v : AV) (H : Heap) : Option (List AV × Heap) := runOps P ex lo ops rest (putE env d v) H
noncomputable def Ky [E : Env] (P : Program) (ex : ExF) (lo : Nat) (ops : Array Oper) (o : Oper) (rest : List Oper) (env : List AV) (H : Heap) (_ : Unit) : Option (List AV × Heap) := opr (opA P ex lo env H o) (Ko P ex lo ops rest env o.dst)
noncomputable def Kn [E : Env] (P : Program) (ex : ExF) (lo : Nat) (ops : Array Oper) (rest : List Oper) (env : List AV) (H : Heap) (d : Option Tmp) (_ : Unit) : Option (List AV × Heap) := runOps P ex lo ops rest (putE env d undefA) H
variable {P : Program} {n : Nat} {cx : Ctx} {lo : Nat} {st : St} {ex : ExF}
theorem kx [E : Env] {c : Code} : Kx P n cx lo c st = exec P n cx lo c st := id rfl
theorem ku [E : Env] {c : Code} {u : Unit} : Ku P n cx lo c st u = exec P n cx lo c st := id rfl
theorem ko [E : Env] {ops : Array Oper} {rest : List Oper} {env : List AV} {d : Option Tmp} {v : AV} {H : Heap} : Ko P ex lo ops rest env d v H = runOps P ex lo ops rest (putE env d v) H := id rfl
theorem ky [E : Env] {ops : Array Oper} {o : Oper} {rest : List Oper} {env : List AV} {H : Heap} {u : Unit} : Ky P ex lo ops o rest env H u = opr (opA P ex lo env H o) (Ko P ex lo ops rest env o.dst) := id rfl
theorem kn [E : Env] {ops : Array Oper} {rest : List Oper} {env : List AV} {H : Heap} {d : Option Tmp} {u : Unit} : Kn P ex lo ops rest env H d u = runOps P ex lo ops rest (putE env d undefA) H := id rfl
theorem sy_seq [E : Env] {a b : Code} : exec P (n + 1) cx lo (.seq a b) st = nxt (exec P n cx lo a st) (Kx P n cx lo b) := by
  rw [ex_seq]; unfold nxt; rfl
theorem sy_ret [E : Env] : exec P (n + 1) cx lo .ret st = some (.ret, st) := id rfl
theorem sy_exit [E : Env] {i : Nat} : exec P (n + 1) cx lo (.exit i) st = some (.exit i, st) := id rfl
theorem sy_skip [E : Env] : exec P (n + 1) cx lo .skip st = some (.normal, st) := id rfl
theorem sy_cond [E : Env] {x : Operand} {a b : Code} : exec P (n + 1) cx lo (.cond x a b) st = cnd (evalO st.env x) (Ku P n cx lo a st) (Ku P n cx lo b st) := by
  rw [ex_cond]
  unfold cnd
  cases evalO st.env x with
  | none => rfl
  | some v => cases v <;> try rfl
              rename_i t; cases t <;> rfl
theorem sy_block [E : Env] {i : Nat} {a : Code} : exec P (n + 1) cx lo (.block i a) st = blk i (exec P n cx lo a st) := by rw [ex_block]; unfold blk; rfl
theorem sy_loop [E : Env] {a : Code} : exec P (n + 1) cx lo (.loop a) st = nxt (exec P n cx lo a st) (Kx P n cx lo (.loop a)) := by rw [ex_loop]; unfold nxt; rfl
theorem sy_region [E : Env] {i : Nat} {ops : Array Oper} : exec P (n + 1) cx lo (.region i ops false) st = reg st.marks (runOps P (exec P n) lo ops ops.toList st.env st.H) := by rw [ex_region]; unfold reg; rfl
theorem sy_draw [E : Env] {i : Nat} {ops : Array Oper} : exec P (n + 1) cx lo (.region i ops true) st = reg st.marks (runD P (exec P n) cx.fn i lo ops st.env st.H) := by rw [ex_draw]; unfold reg; rfl
theorem sy_nil [E : Env] {ops : Array Oper} {env : List AV} {H : Heap} : runOps P ex lo ops [] env H = some (env, H) := by simp only [runOps]
theorem sy_op [E : Env] {ops : Array Oper} {o : Oper} {rest : List Oper} {env : List AV} {H : Heap} : runOps P ex lo ops (o :: rest) env H =
    grd (Region.wanted o (yieldedA ops env)) (Ky P ex lo ops o rest env H) (Kn P ex lo ops rest env H o.dst) := by
  simp only [runOps]
  cases Region.wanted o (yieldedA ops env)
  · simp [grd, kn]
  · simp only [if_true, grd, ky, opr]; rfl
theorem draw_eq [E : Env] {ops : Array Oper} {bef : Array Nat} {m : Nat} {env : List AV} {H : Heap} (h1 : Region.before ops = bef) (h2 : (raceFree ops bef && edgesOk 0 ops.toList && befOk ops bef) = true) (h3 : quietLen bef ops.size = m) :
    runDraw P ex lo ops env H = (match runQuiet P ex ops bef 0 (ops.toList.take m) env H [] with
    | some (env, H) => runOps P ex lo ops (ops.toList.drop m) env H
    | none => none) := by
  unfold runDraw
  simp only [h1, h2, h3, if_true]; rfl
/-- quiet operations, and what comes behind them -/
noncomputable def Kq [E : Env] (P : Program) (ex : ExF) (ops : Array Oper) (bef : Array Nat) (i : Nat) (rest : List Oper) (env : List AV) (d : Option Tmp) (kept : List (Nat × Nat × Nat)) (b : Nat) (H0 : Heap) (v : AV) (H : Heap) : Option (List AV × Heap) :=
  if v.all (visA b kept) && newOk (visA b kept) H0 H then runQuiet P ex ops bef (i + 1) rest (putE env d v) H (if H.next = H0.next then kept else (i, H0.next, H.next - H0.next) :: kept) else none
noncomputable def Kw [E : Env] (P : Program) (ex : ExF) (ops : Array Oper) (bef : Array Nat) (i : Nat) (rest : List Oper) (env : List AV) (d : Option Tmp) (kept : List (Nat × Nat × Nat)) (b : Nat) (H0 : Heap) (rd : Bool) (v : AV) (H : Heap) : Option (List AV × Heap) :=
  if !v.all (visA b kept) then none else
  if rd || v.rf then runQuiet P ex ops bef (i + 1) rest (putE env d v) H0 kept
  else if !newOk (visA b kept) H0 H then none
  else runQuiet P ex ops bef (i + 1) rest (putE env d v) (growH H0 H) ((i, H0.next, H.next - H0.next) :: kept)
noncomputable def Kf [E : Env] (P : Program) (ex : ExF) (ops : Array Oper) (bef : Array Nat) (i : Nat) (o : Oper) (rest : List Oper) (env : List AV) (kept : List (Nat × Nat × Nat)) (b : Nat) (H : Heap) (_ : Unit) : Option (List AV × Heap) :=
  opr (opA P ex H.next env H o) (Kq P ex ops bef i rest env o.dst kept b H)
noncomputable def Kv [E : Env] (P : Program) (ex : ExF) (ops : Array Oper) (bef : Array Nat) (i : Nat) (o : Oper) (rest : List Oper) (env : List AV) (kept : List (Nat × Nat × Nat)) (b : Nat) (H : Heap) (_ : Unit) : Option (List AV × Heap) :=
  opr (opA P ex H.next env (viewA H b kept) o) (Kw P ex ops bef i rest env o.dst kept b H (onlyReads o.op))
noncomputable def Ke [E : Env] (P : Program) (ex : ExF) (ops : Array Oper) (bef : Array Nat) (i : Nat) (o : Oper) (rest : List Oper) (env : List AV) (kept : List (Nat × Nat × Nat)) (b : Nat) (H : Heap) (_ : Unit) : Option (List AV × Heap) :=
  grd (heapFree o.op) (Kf P ex ops bef i o rest env kept b H) (Kv P ex ops bef i o rest env kept b H)
noncomputable def Ks [E : Env] (P : Program) (ex : ExF) (ops : Array Oper) (bef : Array Nat) (i : Nat) (rest : List Oper) (env : List AV) (d : Option Tmp) (kept : List (Nat × Nat × Nat)) (H : Heap) (_ : Unit) : Option (List AV × Heap) :=
  runQuiet P ex ops bef (i + 1) rest (putE env d undefA) H kept
/-- what comes behind the quiet operations -/
noncomputable def Kd [E : Env] (P : Program) (ex : ExF) (lo : Nat) (ops : Array Oper) (rest : List Oper) (env : List AV) (H : Heap) : Option (List AV × Heap) := runOps P ex lo ops rest env H
def drw (r : Option (List AV × Heap)) (k : List AV → Heap → Option (List AV × Heap)) : Option (List AV × Heap) := match r with | some (env, H) => k env H | none => none
theorem drw_some {env : List AV} {H : Heap} {k : List AV → Heap → Option (List AV × Heap)} : drw (some (env, H)) k = k env H := id rfl
theorem kd [E : Env] {ops : Array Oper} {rest : List Oper} {env : List AV} {H : Heap} : Kd P ex lo ops rest env H = runOps P ex lo ops rest env H := id rfl
section
variable {ops : Array Oper} {bef : Array Nat} {i b : Nat} {o : Oper} {rest : List Oper} {env : List AV} {H H0 : Heap} {kept : List (Nat × Nat × Nat)} {d : Option Tmp} {v : AV} {u : Unit} {rd : Bool}
theorem qy_nil [E : Env] : runQuiet P ex ops bef i [] env H kept = some (env, H) := by simp only [runQuiet]
theorem qy_op [E : Env] : runQuiet P ex ops bef i (o :: rest) env H kept = grd (Region.wanted o (yieldedA ops env)) (Ke P ex ops bef i o rest env kept (bef.getD i 0) H) (Ks P ex ops bef i rest env o.dst kept H) := by
  simp only [runQuiet]
  cases Region.wanted o (yieldedA ops env)
  · simp [grd, Ks]
  · simp only [if_true, grd, Ke]
    cases heapFree o.op
    · simp only [Kv, opr, Kw, Bool.false_eq_true, if_false]; rfl
    · simp only [Kf, opr, Kq, if_true]; rfl
theorem ke [E : Env] : Ke P ex ops bef i o rest env kept b H u = grd (heapFree o.op) (Kf P ex ops bef i o rest env kept b H) (Kv P ex ops bef i o rest env kept b H) := id rfl
theorem kf [E : Env] : Kf P ex ops bef i o rest env kept b H u = opr (opA P ex H.next env H o) (Kq P ex ops bef i rest env o.dst kept b H) := id rfl
theorem kv [E : Env] : Kv P ex ops bef i o rest env kept b H u = opr (opA P ex H.next env (viewA H b kept) o) (Kw P ex ops bef i rest env o.dst kept b H (onlyReads o.op)) := id rfl
theorem ks [E : Env] : Ks P ex ops bef i rest env d kept H u = runQuiet P ex ops bef (i + 1) rest (putE env d undefA) H kept := id rfl
theorem kq_same [E : Env] (hv : v.all (visA b kept) = true) : Kq P ex ops bef i rest env d kept b H v H = runQuiet P ex ops bef (i + 1) rest (putE env d v) H kept := by
  simp [Kq, hv, newOk]
theorem kw_same [E : Env] (hv : v.all (visA b kept) = true) (hr : (rd || v.rf) = true) : Kw P ex ops bef i rest env d kept b H0 rd v H = runQuiet P ex ops bef (i + 1) rest (putE env d v) H0 kept := by
  simp only [Kw, hv, hr, Bool.not_true, Bool.false_eq_true, if_false, if_true]
end
theorem viewA_nil {H : Heap} {b : Nat} : viewA H b [] = H := by simp only [viewA]
theorem dy [E : Env] {ops : Array Oper} {bef : Array Nat} {m : Nat} {env : List AV} {H : Heap} (h1 : Region.before ops = bef) (h2 : (raceFree ops bef && edgesOk 0 ops.toList && befOk ops bef) = true) (h3 : quietLen bef ops.size = m) :
    runDraw P ex lo ops env H = drw (runQuiet P ex ops bef 0 (ops.toList.take m) env H []) (Kd P ex lo ops (ops.toList.drop m)) := by
  rw [draw_eq h1 h2 h3]; unfold drw Kd; rfl
end
end Go.Ab
/-! The abstract interpreter without a depth: a fixed point of one step. Conditions: none. -/
set_option linter.unusedSimpArgs false
set_option linter.unusedVariables false
namespace Go.Ab
open Go Go.RowKit
section

/-- one run that is leant on -/
structure Use where
  cx : Ctx
  lo : Nat
  c : Code
  st : St
  r : Ex × St
def Use.of (u : Use) (ex : ExF) : Prop := ex u.cx u.lo u.c u.st = some u.r
/-- it holds because of finitely many runs -/
def Fin (ex : ExF) (Q : ExF → Prop) : Prop := ∃ L : List Use, (∀ u ∈ L, u.of ex) ∧ ∀ ex', (∀ u ∈ L, u.of ex') → Q ex'
theorem Fin.run {ex : ExF} {cx : Ctx} {lo : Nat} {c : Code} {st : St} {r : Ex × St} (h : ex cx lo c st = some r) : Fin ex fun ex' => ex' cx lo c st = some r :=
  ⟨[⟨cx, lo, c, st, r⟩], by simpa [Use.of] using h, fun ex' k => by simpa [Use.of] using k⟩
theorem Fin.pure {ex : ExF} {Q : ExF → Prop} (h : ∀ ex', Q ex') : Fin ex Q := ⟨[], by simp, fun ex' _ => h ex'⟩
theorem Fin.imp {ex : ExF} {Q R : ExF → Prop} (h : Fin ex Q) (k : ∀ ex', Q ex' → R ex') : Fin ex R := by
  obtain ⟨L, h1, h2⟩ := h; exact ⟨L, h1, fun ex' h => k ex' (h2 ex' h)⟩
theorem Fin.both {ex : ExF} {Q R S : ExF → Prop} (h : Fin ex Q) (k : Fin ex R) (f : ∀ ex', Q ex' → R ex' → S ex') : Fin ex S := by
  obtain ⟨L, h1, h2⟩ := h; obtain ⟨M, k1, k2⟩ := k
  exact ⟨L ++ M, fun u hu => (List.mem_append.1 hu).elim (h1 u) (k1 u), fun ex' h => f ex' (h2 ex' fun u hu => h u (by simp [hu])) (k2 ex' fun u hu => h u (by simp [hu]))⟩

variable {P : Program} {ex : ExF}
theorem callA_fin [E : Env] {lo : Nat} {f : FuncId} {args : List AV} {H : Heap} {r : AV × Heap} (h : callA P ex lo f args H = some r) : Fin ex fun ex' => callA P ex' lo f args H = some r := by
  cases hf : P.funcs[f]? with
  | none => simp [callA, hf] at h
  | some fn =>
  cases hb : fn.body with
  | none => simp [callA, hf, hb] at h
  | some c =>
  cases hs : E.summ f args with
  | some v =>
    refine Fin.pure fun ex' => ?_
    unfold callA at h ⊢
    simp only [hf, hb, hs] at h ⊢
    exact h
  | none =>
  cases hx : ex ⟨f, none⟩ (if AV.rfL args = true then H.next else lo) c ⟨args ++ List.replicate (fn.ntmps - args.length) undefA, [], H⟩ with
  | none => simp [callA, hf, hb, hs, hx] at h
  | some q =>
    refine (Fin.run hx).imp fun ex' h' => ?_
    unfold callA at h ⊢
    simp only [hf, hb, hs, hx, h'] at h ⊢
    exact h
theorem roundA_fin [E : Env] {lo l : Nat} {args : List AV} {H : Heap} {r : AV × Heap} (h : roundA ex lo l args H = some r) : Fin ex fun ex' => roundA ex' lo l args H = some r := by
  unfold roundA at h
  split at h
  · rename_i st pend fn tmps params assign body d hl
    split at h
    · rename_i hlo
      cases hp : setParams tmps params args with
      | none => simp [hp] at h
      | some env =>
      simp only [hp] at h
      cases hx : ex ⟨fn, some l⟩ lo assign ⟨env, [], H⟩ with
      | none => simp [hx] at h
      | some q =>
      simp only [hx] at h
      split at h
      · rename_i env' H' hq
        cases hq
        split at h
        · rename_i pend fn1 tmps1 params1 assign1 body1 d1 hg
          cases hy : ex ⟨fn, some l⟩ lo body ⟨env', [], H'.set l (.loop .busy pend fn1 tmps1 params1 assign1 body1 d1)⟩ with
          | none => simp [hy] at h
          | some q2 =>
            refine (Fin.run hx).both (Fin.run hy) fun ex' h1 h2 => ?_
            unfold roundA
            simp only [hl, hlo, if_true, hp, h1, hg, h2]
            rw [hy] at h
            exact h
        · cases h
      · cases h
    · cases h
  · cases h
theorem callV_fin [E : Env] {lo : Nat} {f : AV} {args : List AV} {H : Heap} {r : AV × Heap} (h : callV P ex lo f args H = some r) : Fin ex fun ex' => callV P ex' lo f args H = some r := by
  unfold callV at h ⊢
  split at h
  · exact callA_fin h
  · exact roundA_fin h
  · cases h
theorem opA_fin [E : Env] {lo : Nat} {env : List AV} {H : Heap} {o : Oper} {r : AV × Heap} (h : opA P ex lo env H o = some r) : Fin ex fun ex' => opA P ex' lo env H o = some r := by
  by_cases hc : ∃ f args ts, o.op = .call { callee := .value f, args := args, argTypes := ts }
  · obtain ⟨f, args, ts, ho⟩ := hc
    simp only [opA, ho] at h
    obtain ⟨f', h1, h2⟩ := bind1 h
    obtain ⟨vs, h3, h4⟩ := bind1 h2
    refine (callV_fin h4).imp fun ex' k => ?_
    simp only [opA, ho, h1, h3, Option.bind]; exact k
  · have e : ∀ ex : ExF, opA P ex lo env H o = aop P lo env H o := by
      intro ex
      unfold opA
      split
      · rename_i ho; exact absurd ⟨_, _, _, ho⟩ hc
      · rfl
    refine Fin.pure fun ex' => ?_
    rw [e] at h ⊢; exact h
theorem runOps_fin [E : Env] {lo : Nat} {ops : Array Oper} : ∀ (l : List Oper) {env : List AV} {H : Heap} {r : List AV × Heap}, runOps P ex lo ops l env H = some r → Fin ex fun ex' => runOps P ex' lo ops l env H = some r
  | [], env, H, r, h => Fin.pure fun _ => h
  | o :: rest, env, H, r, h => by
    simp only [runOps] at h ⊢
    split at h
    · rename_i hw
      simp only [hw, if_true]
      cases ho : opA P ex lo env H o with
      | none => simp [ho] at h
      | some q =>
      simp only [ho] at h
      refine (opA_fin ho).both (runOps_fin rest h) fun ex' h1 h2 => ?_
      simp only [h1]; exact h2
    · rename_i hw
      simp only [hw]
      exact runOps_fin rest h
theorem runQuiet_fin [E : Env] {ops : Array Oper} {bef : Array Nat} : ∀ (l : List Oper) {i : Nat} {env : List AV} {H : Heap} {kept : List (Nat × Nat × Nat)} {r : List AV × Heap}, runQuiet P ex ops bef i l env H kept = some r → Fin ex fun ex' => runQuiet P ex' ops bef i l env H kept = some r
  | [], i, env, H, kept, r, h => Fin.pure fun _ => by simpa only [runQuiet] using h
  | o :: rest, i, env, H, kept, r, h => by
    simp only [runQuiet] at h ⊢
    split at h
    · rename_i hw
      simp only [hw, if_true]
      split at h
      · rename_i hf
        simp only [hf, if_true]
        cases ho : opA P ex H.next env H o with
        | none => simp [ho] at h
        | some q =>
        simp only [ho] at h
        split at h
        · rename_i hc
          refine (opA_fin ho).both (runQuiet_fin rest h) fun ex' h1 h2 => ?_
          simp only [h1, hc, if_true]; exact h2
        · cases h
      · rename_i hf
        simp only [hf, Bool.false_eq_true, if_false]
        cases ho : opA P ex H.next env (viewA H (bef.getD i 0) kept) o with
        | none => rw [ho] at h; cases h
        | some q =>
        simp only [ho] at h
        split at h
        · cases h
        · rename_i hc
          split at h
          · rename_i hd
            refine (opA_fin ho).both (runQuiet_fin rest h) fun ex' h1 h2 => ?_
            simp only [h1, hc, hd, if_true]; exact h2
          · rename_i hd
            split at h
            · cases h
            · rename_i he
              refine (opA_fin ho).both (runQuiet_fin rest h) fun ex' h1 h2 => ?_
              simp only [h1, hc, hd, he]; exact h2
    · rename_i hw
      simp only [hw]
      exact runQuiet_fin rest h
theorem runDraw_fin [E : Env] {lo : Nat} {ops : Array Oper} {env : List AV} {H : Heap} {r : List AV × Heap} (h : runDraw P ex lo ops env H = some r) : Fin ex fun ex' => runDraw P ex' lo ops env H = some r := by
  unfold runDraw at h ⊢
  dsimp only at h ⊢
  split at h
  · rename_i hc
    simp only [hc, if_true]
    split at h
    · rename_i env1 H1 hq
      refine (runQuiet_fin _ hq).both (runOps_fin _ h) fun ex' h1 h2 => ?_
      simp only [h1]; exact h2
    · cases h
  · cases h
theorem runL_fin [E : Env] {lo m : Nat} {ops : Array Oper} {bef : Array Nat} {W : Nat → List Nat} : ∀ (l : List Oper) {i : Nat} {env : List AV} {H : Heap} {kept : List (Nat × Nat × Nat)} {r : List AV × Heap}, runL P ex lo ops bef m W i l env H kept = some r → Fin ex fun ex' => runL P ex' lo ops bef m W i l env H kept = some r
  | [], i, env, H, kept, r, h => Fin.pure fun _ => by simpa only [runL] using h
  | o :: rest, i, env, H, kept, r, h => by
    simp only [runL] at h ⊢
    split at h
    · rename_i hw
      simp only [hw, if_true]
      split at h
      · rename_i hf
        simp only [hf, if_true]
        split at h
        · rename_i v V ho
          split at h
          · rename_i hc
            refine (opA_fin ho).both (runL_fin rest h) fun ex' h1 h2 => ?_
            simp only [h1, hc, if_true]; exact h2
          · cases h
        · cases h
      · rename_i hf
        simp only [hf]
        split at h
        · rename_i v V ho
          split at h
          · rename_i hc
            refine (opA_fin ho).both (runL_fin rest h) fun ex' h1 h2 => ?_
            simp only [h1, hc, if_true]; exact h2
          · cases h
        · cases h
    · rename_i hw
      simp only [hw]
      exact runL_fin rest h
theorem runD_fin [E : Env] {fn : FuncId} {id lo : Nat} {ops : Array Oper} {env : List AV} {H : Heap} {r : List AV × Heap} (h : runD P ex fn id lo ops env H = some r) : Fin ex fun ex' => runD P ex' fn id lo ops env H = some r := by
  cases hh : E.hint fn id with
  | none =>
    simp only [runD, hh] at h ⊢
    exact runDraw_fin h
  | some W =>
    simp only [runD, hh] at h ⊢
    unfold runLoud at h ⊢
    dsimp only at h ⊢
    split at h
    · rename_i hc
      simp only [hc, if_true]
      split at h
      · rename_i env1 H1 hq
        refine (runL_fin _ hq).both (runOps_fin _ h) fun ex' h1 h2 => ?_
        simp only [h1]; exact h2
      · cases h
    · cases h
theorem stepX_fin [E : Env] {cx : Ctx} {lo : Nat} {c : Code} {st : St} {r : Ex × St} (h : stepX P ex cx lo c st = some r) : Fin ex fun ex' => stepX P ex' cx lo c st = some r := by
  cases c with
  | skip => exact Fin.pure fun _ => h
  | ret => exact Fin.pure fun _ => h
  | exit id => exact Fin.pure fun _ => h
  | region id ops draw =>
    simp only [stepX] at h ⊢
    cases draw with
    | true =>
      simp only [if_true] at h ⊢
      split at h
      · rename_i env H hq
        refine (runD_fin hq).imp fun ex' h1 => ?_
        simp only [h1]; exact h
      · cases h
    | false =>
      simp only [Bool.false_eq_true, if_false] at h ⊢
      split at h
      · rename_i env H hq
        refine (runOps_fin _ hq).imp fun ex' h1 => ?_
        simp only [h1]; exact h
      · cases h
  | seq a b =>
    simp only [stepX] at h ⊢
    split at h
    · rename_i st' hx
      refine (Fin.run hx).both (Fin.run h) fun ex' h1 h2 => ?_
      simp only [h1]; exact h2
    · rename_i hn
      refine (Fin.run h).imp fun ex' h1 => ?_
      rw [h1]
      split
      · rename_i st' he; exact absurd (h.trans he) (hn st')
      · rfl
  | cond x a b =>
    simp only [stepX] at h
    split at h
    · rename_i t he
      refine (Fin.run h).imp fun ex' h1 => ?_
      simp only [stepX, he]
      exact h1
    · cases h
  | block id a =>
    simp only [stepX] at h ⊢
    split at h
    · rename_i id' st' hx
      refine (Fin.run hx).imp fun ex' h1 => ?_
      simp only [h1]; exact h
    · rename_i hn
      refine (Fin.run h).imp fun ex' h1 => ?_
      rw [h1]
      split
      · rename_i id' st' he; exact absurd (h.trans he) (hn id' st')
      · rfl
  | loop a =>
    simp only [stepX] at h ⊢
    split at h
    · rename_i st' hx
      refine (Fin.run hx).both (Fin.run h) fun ex' h1 h2 => ?_
      simp only [h1]; exact h2
    · rename_i hn
      refine (Fin.run h).imp fun ex' h1 => ?_
      rw [h1]
      split
      · rename_i st' he; exact absurd (h.trans he) (hn st')
      · rfl
  | rangeFunc f params assign body =>
    simp only [stepX] at h ⊢
    cases hf : evalO st.env f with
    | none => simp [hf] at h
    | some fv =>
    simp only [hf] at h ⊢
    cases hl : loopStart cx.rnd st.marks st.H with
    | none => simp [hl] at h
    | some q =>
    obtain ⟨d, marks, H⟩ := q
    simp only [hl] at h ⊢
    cases fv with
    | func g first cap =>
      simp only at h ⊢
      split at h
      · rename_i v H' hc
        refine (callA_fin hc).imp fun ex' h1 => ?_
        simp only [h1]; exact h
      · cases h
    | _ => simp at h
  | _ => simp [stepX] at h

/-- the interpreter: what it says at some depth -/
noncomputable def om [E : Env] (P : Program) : ExF := fun cx lo c st => by
  classical exact if h : ∃ r, ∃ n, exec P n cx lo c st = some r then some h.choose else none

theorem Fin.mono {Q : ExF → Prop} {ex' : ExF} (h : Fin ex Q) (k : ∀ cx lo c st r, ex cx lo c st = some r → ex' cx lo c st = some r) : Q ex' := by
  obtain ⟨L, h1, h2⟩ := h
  exact h2 ex' fun u hu => k _ _ _ _ _ (h1 u hu)
theorem exec_le [E : Env] : ∀ n cx lo c st r, exec P n cx lo c st = some r → exec P (n + 1) cx lo c st = some r
  | 0, _, _, _, _, _, h => by rw [exec_zero] at h; cases h
  | n + 1, cx, lo, c, st, r, h => by
    rw [exec_succ] at h ⊢
    exact (stepX_fin h).mono (exec_le n)
theorem exec_mono [E : Env] {n m : Nat} (h : n ≤ m) : ∀ cx lo c st r, exec P n cx lo c st = some r → exec P m cx lo c st = some r := by
  induction h with
  | refl => exact fun _ _ _ _ _ h => h
  | step _ ih => exact fun cx lo c st r h => exec_le _ _ _ _ _ _ (ih cx lo c st r h)
theorem om_of [E : Env] {n : Nat} {cx : Ctx} {lo : Nat} {c : Code} {st : St} {r : Ex × St} (h : exec P n cx lo c st = some r) : om P cx lo c st = some r := by
  unfold om
  have hex : ∃ r, ∃ n, exec P n cx lo c st = some r := ⟨r, n, h⟩
  rw [dif_pos hex]
  obtain ⟨m, hm⟩ := hex.choose_spec
  have e1 := exec_mono (Nat.le_max_left n m) _ _ _ _ _ h
  have e2 := exec_mono (Nat.le_max_right n m) _ _ _ _ _ hm
  rw [e1] at e2
  exact e2.symm
theorem of_om [E : Env] {cx : Ctx} {lo : Nat} {c : Code} {st : St} {r : Ex × St} (h : om P cx lo c st = some r) : ∃ n, exec P n cx lo c st = some r := by
  unfold om at h
  split at h
  · rename_i hex
    have := hex.choose_spec
    cases h
    exact this
  · cases h
/-- what follows from runs of 'om' follows from runs at a depth -/
theorem Fin.depth [E : Env] {Q : ExF → Prop} (h : Fin (om P) Q) : ∃ n, ∀ m, n ≤ m → Q (exec P m) := by
  obtain ⟨L, h1, h2⟩ := h
  suffices ∃ n, ∀ m, n ≤ m → ∀ u ∈ L, u.of (exec P m) by
    obtain ⟨n, hn⟩ := this; exact ⟨n, fun m hm => h2 _ (hn m hm)⟩
  clear h2
  induction L with
  | nil => exact ⟨0, by simp⟩
  | cons u L ih =>
    obtain ⟨n, hn⟩ := ih fun v hv => h1 v (by simp [hv])
    obtain ⟨k, hk⟩ := of_om (h1 u (by simp))
    refine ⟨max n k, fun m hm v hv => ?_⟩
    rcases List.mem_cons.1 hv with rfl | hv
    · exact exec_mono (by omega) _ _ _ _ _ hk
    · exact hn m (by omega) v hv
theorem om_eq [E : Env] (cx : Ctx) (lo : Nat) (c : Code) (st : St) : om P cx lo c st = stepX P (om P) cx lo c st := by
  apply Option.ext
  intro r
  constructor
  · intro h
    obtain ⟨n, hn⟩ := of_om h
    cases n with
    | zero => rw [exec_zero] at hn; cases hn
    | succ n =>
      rw [exec_succ] at hn
      exact (stepX_fin hn).mono fun _ _ _ _ _ h => om_of h
  · intro h
    obtain ⟨n, hn⟩ := (stepX_fin h).depth
    exact om_of (n := n + 1) (by rw [exec_succ]; exact hn n (Nat.le_refl n))
theorem callA_depth [E : Env] {lo : Nat} {f : FuncId} {args : List AV} {H : Heap} {r : AV × Heap} (h : callA P (om P) lo f args H = some r) : ∃ n, callA P (exec P n) lo f args H = some r := by
  obtain ⟨n, hn⟩ := (callA_fin h).depth
  exact ⟨n, hn n (Nat.le_refl n)⟩
end
end Go.Ab
/-! The abstract interpreter without a depth: steps of symbolic runs, for 'simp'. Conditions: none. -/
set_option linter.unusedSimpArgs false
set_option linter.unusedVariables false
set_option linter.unusedSectionVars false
namespace Go.Ab
open Go Go.RowKit

/-! ### where a piece of code lies -/
/-- the loop in a block: the block's body, or the last part of it -/
def firstC : Code → Code
  | .seq _ b => firstC b
  | c => c
/-- the loop in the block of that number -/
def loopIn (id : Nat) : Code → Option Code
  | .seq a b => match loopIn id a with | some c => some c | none => loopIn id b
  | .cond _ a b => match loopIn id a with | some c => some c | none => loopIn id b
  | .block i a => if i = id then some (firstC a) else loopIn id a
  | .loop a => loopIn id a
  | .scope a => loopIn id a
  | .rangeFunc _ _ a b => match loopIn id a with | some c => some c | none => loopIn id b
  | _ => none
/-- the operations of the region of that number -/
def regIn (id : Nat) : Code → Option (Array Oper)
  | .seq a b => match regIn id a with | some c => some c | none => regIn id b
  | .cond _ a b => match regIn id a with | some c => some c | none => regIn id b
  | .block _ a => regIn id a
  | .loop a => regIn id a
  | .scope a => regIn id a
  | .rangeFunc _ _ a b => match regIn id a with | some c => some c | none => regIn id b
  | .region i ops _ => if i = id then some ops else none
  | _ => none
def loopAt (f : Func) (id : Nat) : Code := (loopIn id (f.body.getD .skip)).getD .skip
def regAt (f : Func) (id : Nat) : Array Oper := (regIn id (f.body.getD .skip)).getD #[]

/-- how many operations of a region stand in an open order (if the region is such that this is known) -/
def drawLen (ops : Array Oper) : Option Nat :=
  let bef := Region.before ops
  if raceFree ops bef && edgesOk 0 ops.toList && befOk ops bef then some (quietLen bef ops.size) else none

mutual
theorem all_true : ∀ v : AV, v.all (fun _ => true) = true
  | .func _ a b => by simp [AV.all, allL_true a, allL_true b]
  | .iface _ v => by simp [AV.all, all_true v]
  | .agg l | .tup l => by simp [AV.all, allL_true l]
  | .map none | .map (some _) | .ptr _ _ | .sl _ _ _ _ | .yieldf _ | .bool _ | .int _ _ | .str _ | .nilp | .rptr _ _ | .rsl _ _ _ _ | .nilf | .nili => rfl
theorem allL_true : ∀ l : List AV, AV.allL (fun _ => true) l = true
  | [] => rfl
  | v :: vs => by simp [AV.allL, all_true v, allL_true vs]
end

section
/-- operations in an open order that leave the heap as it is -/
noncomputable def runStill [E : Env] (P : Program) (ex : ExF) (ops : Array Oper) : List Oper → List AV → Heap → Option (List AV × Heap)
  | [], env, H => some (env, H)
  | o :: rest, env, H =>
    if Region.wanted o (yieldedA ops env) then
      match opA P ex H.next env H o with
      | some (v, H') => if @decide (H' = H) (Classical.propDecidable _) && (heapFree o.op || (onlyReads o.op || v.rf)) then runStill P ex ops rest (putE env o.dst v) H else none
      | none => none
    else runStill P ex ops rest (putE env o.dst undefA) H

theorem visA_nil [E : Env] {b : Nat} : visA b [] = fun _ => true := by funext x; rfl
variable {P : Program} {ex : ExF} {cx : Ctx} {lo : Nat} {st : St}
theorem runStill_quiet [E : Env] {ops : Array Oper} {bef : Array Nat} : ∀ (l : List Oper) (i : Nat) (env : List AV) (H : Heap) (r : List AV × Heap),
    runStill P ex ops l env H = some r → runQuiet P ex ops bef i l env H [] = some r
  | [], i, env, H, r, h => by simpa only [runQuiet, runStill] using h
  | o :: rest, i, env, H, r, h => by
    simp only [runStill] at h
    simp only [runQuiet, visA_nil, viewA]
    split at h
    · rename_i hw
      simp only [hw, if_true]
      cases ho : opA P ex H.next env H o with
      | none => rw [ho] at h; cases h
      | some q =>
      obtain ⟨v, H'⟩ := q
      rw [ho] at h
      simp only at h
      split at h
      · rename_i e
        simp only [Bool.and_eq_true, decide_eq_true_eq] at e
        obtain ⟨e, hc⟩ := e
        subst e
        have ih := runStill_quiet (bef := bef) rest (i + 1) _ H' r h
        have hv := all_true v
        cases hf : heapFree o.op with
        | true =>
          have hn : newOk (fun _ => true) H' H' = true := by simp [newOk]
          simp only [if_true, hv, hn, Bool.and_self]
          exact ih
        | false =>
          simp only [hf, Bool.false_or] at hc
          simp only [Bool.false_eq_true, if_false, hv, Bool.not_true, hc, if_true]
          exact ih
      · cases h
    · rename_i hw
      simp only [hw]
      exact runStill_quiet rest (i + 1) _ H r h

/-! ### steps -/
/-- what comes behind, in a form into which 'simp' does not go -/
noncomputable def Ox [E : Env] (P : Program) (cx : Ctx) (lo : Nat) (c : Code) (st : St) : Option (Ex × St) := om P cx lo c st
noncomputable def Ou [E : Env] (P : Program) (cx : Ctx) (lo : Nat) (c : Code) (st : St) (_ : Unit) : Option (Ex × St) := om P cx lo c st
theorem ox [E : Env] {c : Code} : Ox P cx lo c st = om P cx lo c st := id rfl
theorem ou [E : Env] {c : Code} {u : Unit} : Ou P cx lo c st u = om P cx lo c st := id rfl
theorem oy_seq [E : Env] {a b : Code} : om P cx lo (.seq a b) st = nxt (om P cx lo a st) (Ox P cx lo b) := by
  rw [om_eq]; simp only [stepX]; unfold nxt Ox; rfl
theorem oy_ret [E : Env] : om P cx lo .ret st = some (.ret, st) := by rw [om_eq]; simp only [stepX]
theorem oy_exit [E : Env] {i : Nat} : om P cx lo (.exit i) st = some (.exit i, st) := by rw [om_eq]; simp only [stepX]
theorem oy_skip [E : Env] : om P cx lo .skip st = some (.normal, st) := by rw [om_eq]; simp only [stepX]
theorem oy_cond [E : Env] {x : Operand} {a b : Code} : om P cx lo (.cond x a b) st = cnd (evalO st.env x) (Ou P cx lo a st) (Ou P cx lo b st) := by
  rw [om_eq]
  simp only [stepX]
  unfold cnd
  cases evalO st.env x with
  | none => rfl
  | some v => cases v <;> try rfl
              rename_i t; cases t <;> rfl
theorem oy_block [E : Env] {i : Nat} {a : Code} : om P cx lo (.block i a) st = blk i (om P cx lo a st) := by rw [om_eq]; simp only [stepX]; unfold blk; rfl
theorem oy_loop [E : Env] {a : Code} : om P cx lo (.loop a) st = nxt (om P cx lo a st) (Ox P cx lo (.loop a)) := by rw [om_eq]; simp only [stepX]; unfold nxt Ox; rfl
theorem oy_region [E : Env] {i : Nat} {ops : Array Oper} : om P cx lo (.region i ops false) st = reg st.marks (runOps P (om P) lo ops ops.toList st.env st.H) := by
  rw [om_eq]; simp only [stepX, Bool.false_eq_true, if_false]; unfold reg; rfl
/-- what comes behind operations in an open order -/
def stl (r : Option (List AV × Heap)) (k : List AV → Heap → Option (List AV × Heap)) : Option (List AV × Heap) := match r with | some (env, H) => k env H | none => none
theorem stl_some [E : Env] {env : List AV} {H : Heap} {k : List AV → Heap → Option (List AV × Heap)} : stl (some (env, H)) k = k env H := id rfl
@[congr] theorem stl_congr [E : Env] {r r' : Option (List AV × Heap)} {k : List AV → Heap → Option (List AV × Heap)} (h : r = r') : stl r k = stl r' k := by rw [h]
/-- a region whose order is open: so that it can be rewritten; 'dr' tells what it comes to -/
noncomputable def Dr [E : Env] (P : Program) (lo : Nat) (ops : Array Oper) (l : Option Nat) (env : List AV) (H : Heap) : Option (List AV × Heap) := runDraw P (om P) lo ops env H
theorem oy_draw [E : Env] {i : Nat} {ops : Array Oper} (hh : E.hint cx.fn i = none) : om P cx lo (.region i ops true) st = reg st.marks (Dr P lo ops (drawLen ops) st.env st.H) := by
  rw [om_eq]; simp only [stepX, if_true, runD, hh]; unfold reg Dr; rfl
theorem oy_loud [E : Env] {i : Nat} {ops : Array Oper} {W : List AV → Heap → Nat → List Nat} (hh : E.hint cx.fn i = some W) : om P cx lo (.region i ops true) st = reg st.marks (runLoud P (om P) lo ops (W st.env st.H) st.env st.H) := by
  rw [om_eq]; simp only [stepX, if_true, runD, hh]; unfold reg; rfl
theorem drawLen_some [E : Env] {ops : Array Oper} {m : Nat} (h : drawLen ops = some m) : (raceFree ops (Region.before ops) && edgesOk 0 ops.toList && befOk ops (Region.before ops)) = true ∧ quietLen (Region.before ops) ops.size = m := by
  unfold drawLen at h
  dsimp only at h
  split at h
  · rename_i hc; cases h; exact ⟨hc, rfl⟩
  · cases h
/-- a region all whose open operations leave the heap alone -/
theorem draw_still [E : Env] {ops : Array Oper} {m : Nat} {env : List AV} {H : Heap} {r : List AV × Heap} (h : drawLen ops = some m)
    (hr : stl (runStill P (om P) ops (ops.toList.take m) env H) (Kd P (om P) lo ops (ops.toList.drop m)) = some r) : runDraw P (om P) lo ops env H = some r := by
  obtain ⟨h1, h2⟩ := drawLen_some h
  rw [dy rfl h1 h2]
  unfold stl at hr
  split at hr
  · rename_i env1 H1 hq
    rw [runStill_quiet _ _ _ _ _ hq, drw_some]; exact hr
  · cases hr
/-- the first answer, if there is one -/
def dre (x y : Option (List AV × Heap)) : Option (List AV × Heap) := match x with | some r => some r | none => y
@[congr] theorem dre_congr [E : Env] {x x' y : Option (List AV × Heap)} (h : x = x') : dre x y = dre x' y := by rw [h]
theorem dre_some [E : Env] {r : List AV × Heap} {y : Option (List AV × Heap)} : dre (some r) y = some r := id rfl
theorem dr_eq [E : Env] {ops : Array Oper} {m : Nat} {env : List AV} {H : Heap} (h : drawLen ops = some m) :
    Dr P lo ops (some m) env H = dre (stl (runStill P (om P) ops (ops.toList.take m) env H) (Kd P (om P) lo ops (ops.toList.drop m))) (runDraw P (om P) lo ops env H) := by
  cases hq : stl (runStill P (om P) ops (ops.toList.take m) env H) (Kd P (om P) lo ops (ops.toList.drop m)) with
  | none => rfl
  | some r => rw [dre_some]; exact draw_still h hq
/-- an open operation, and what comes behind it -/
noncomputable def Os [E : Env] (P : Program) (ops : Array Oper) (rest : List Oper) (env : List AV) (d : Option Tmp) (op : Op) (H : Heap) (v : AV) (H' : Heap) : Option (List AV × Heap) :=
  if @decide (H' = H) (Classical.propDecidable _) && (heapFree op || (onlyReads op || v.rf)) then runStill P (om P) ops rest (putE env d v) H else none
noncomputable def Ot [E : Env] (P : Program) (ops : Array Oper) (o : Oper) (rest : List Oper) (env : List AV) (H : Heap) (_ : Unit) : Option (List AV × Heap) :=
  opr (opA P (om P) H.next env H o) (Os P ops rest env o.dst o.op H)
noncomputable def Ov [E : Env] (P : Program) (ops : Array Oper) (rest : List Oper) (env : List AV) (H : Heap) (d : Option Tmp) (_ : Unit) : Option (List AV × Heap) := runStill P (om P) ops rest (putE env d undefA) H
theorem os_same [E : Env] {ops : Array Oper} {rest : List Oper} {env : List AV} {d : Option Tmp} {op : Op} {H : Heap} {v : AV} (h : (heapFree op || (onlyReads op || v.rf)) = true) :
    Os P ops rest env d op H v H = runStill P (om P) ops rest (putE env d v) H := by
  simp [Os, h]
theorem ot [E : Env] {ops : Array Oper} {o : Oper} {rest : List Oper} {env : List AV} {H : Heap} {u : Unit} : Ot P ops o rest env H u = opr (opA P (om P) H.next env H o) (Os P ops rest env o.dst o.op H) := id rfl
theorem ov [E : Env] {ops : Array Oper} {rest : List Oper} {env : List AV} {H : Heap} {d : Option Tmp} {u : Unit} : Ov P ops rest env H d u = runStill P (om P) ops rest (putE env d undefA) H := id rfl
theorem st_nil [E : Env] {ops : Array Oper} {env : List AV} {H : Heap} : runStill P ex ops [] env H = some (env, H) := by simp only [runStill]
theorem st_op [E : Env] {ops : Array Oper} {o : Oper} {rest : List Oper} {env : List AV} {H : Heap} : runStill P (om P) ops (o :: rest) env H =
    grd (Region.wanted o (yieldedA ops env)) (Ot P ops o rest env H) (Ov P ops rest env H o.dst) := by
  simp only [runStill]
  cases Region.wanted o (yieldedA ops env)
  · simp [grd, Ov]
  · simp only [if_true, grd, Ot, opr]; rfl
/-- what a call makes of its body's end -/
noncomputable def fin (P : Program) (own : Bool) (rs : List ResultVar) (H : Heap) (r : Option (Ex × St)) : Option (AV × Heap) :=
  match r with
  | some (.normal, st) | some (.ret, st) => match dropMarks st.H st.marks with
    | some H' => match resultsA P H' st.env rs with
      | some vs => if (own || unch H H') && (tupA vs).rf then some (tupA vs, H) else some (tupA vs, H')
      | none => none
    | none => none
  | _ => none
@[congr] theorem fin_congr [E : Env] {own : Bool} {rs : List ResultVar} {H : Heap} {r r' : Option (Ex × St)} (h : r = r') : fin P own rs H r = fin P own rs H r' := by rw [h]
noncomputable def finv (own : Bool) (H H' : Heap) (r : Option (List AV)) : Option (AV × Heap) := match r with
  | some vs => if (own || unch H H') && (tupA vs).rf then some (tupA vs, H) else some (tupA vs, H')
  | none => none
theorem fin_ret [E : Env] {own : Bool} {rs : List ResultVar} {H H' : Heap} {env : List AV} : fin P own rs H (some (.ret, ⟨env, [], H'⟩)) = finv own H H' (resultsA P H' env rs) := by
  simp only [fin, dropMarks, finv]
theorem fin_normal [E : Env] {own : Bool} {rs : List ResultVar} {H H' : Heap} {env : List AV} : fin P own rs H (some (.normal, ⟨env, [], H'⟩)) = finv own H H' (resultsA P H' env rs) := by
  simp only [fin, dropMarks, finv]
theorem finv_some [E : Env] {own : Bool} {H H' : Heap} {vs : List AV} : finv own H H' (some vs) = if (own || unch H H') && (tupA vs).rf then some (tupA vs, H) else some (tupA vs, H') := id rfl
theorem call_eq [E : Env] {f : FuncId} {fn : Func} {c : Code} {args : List AV} {H : Heap} (hf : P.funcs[f]? = some fn) (hb : fn.body = some c) (hs : E.summ f args = none) :
    callA P (om P) lo f args H = fin P (AV.rfL args) fn.results.toList H (om P ⟨f, none⟩ (if AV.rfL args then H.next else lo) c ⟨args ++ List.replicate (fn.ntmps - args.length) undefA, [], H⟩) := by
  unfold callA
  simp only [hf, hb, hs]
  unfold fin
  rfl
end
theorem unch_self {H : Heap} : unch H H = true := unch_iff.2 fun _ _ => rfl
/-- nothing known from without -/
@[instance_reducible] def noEnv : Env := ⟨fun _ => none, fun _ _ => none, fun _ _ => none⟩
theorem noEnv_summ (f : FuncId) (args : List AV) : noEnv.summ f args = none := rfl
end Go.Ab
/-! Whole numbers as the interpreter reckons them, in Lean's own terms. Conditions: the bounds in each statement. -/
set_option linter.unusedSimpArgs false
set_option linter.unusedVariables false
namespace Go.Ab
open Go

/-- what an operation's slot says to a guard -/
def yv : Option AV → Option Bool
  | some (.bool b) => some b
  | _ => none
theorem yielded_yv {ops : Array Oper} {env : List AV} {j : Nat} : yieldedA ops env j = yv (((ops[j]?).bind (·.dst)).bind (env[·]?)) := by
  unfold yieldedA yv; rfl
theorem yv_bool {b : Bool} : yv (some (.bool b)) = some b := id rfl
theorem yv_undef : yv (some undefA) = none := id rfl
theorem yv_none : yv none = none := id rfl
theorem og_n {b : Bool} : ((none : Option Bool) == some b) = false := id rfl
theorem og_tt : (some true == some true) = true := id rfl
theorem og_ff : (some false == some false) = true := id rfl
theorem og_tf : (some true == some false) = false := id rfl
theorem og_ft : (some false == some true) = false := id rfl
section
variable {k : IntKind} {a b : Int}
theorem bi_add : binIntA .add k a b = some (.int k (k.wrap (a + b))) := id rfl
theorem bi_sub : binIntA .sub k a b = some (.int k (k.wrap (a - b))) := id rfl
theorem bi_mul : binIntA .mul k a b = some (.int k (k.wrap (a * b))) := id rfl
theorem bi_quo (h : b ≠ 0) : binIntA .quo k a b = some (.int k (k.wrap (a.tdiv b))) := by simp [binIntA, h]
theorem bi_rem (h : b ≠ 0) : binIntA .rem k a b = some (.int k (a.tmod b)) := by simp [binIntA, h]
theorem bi_eql : binIntA .eql k a b = some (.bool (a == b)) := id rfl
theorem bi_neq : binIntA .neq k a b = some (.bool (a != b)) := id rfl
theorem bi_lss : binIntA .lss k a b = some (.bool (decide (a < b))) := id rfl
theorem bi_leq : binIntA .leq k a b = some (.bool (decide (a ≤ b))) := id rfl
theorem bi_gtr : binIntA .gtr k a b = some (.bool (decide (b < a))) := id rfl
theorem bi_geq : binIntA .geq k a b = some (.bool (decide (b ≤ a))) := id rfl
end
theorem wrap_u64 (n : Nat) : IntKind.u64.wrap (n : Int) = ((n % 2 ^ 64 : Nat) : Int) := by
  simp [IntKind.wrap, IntKind.bits, IntKind.signed]
theorem wrap_u64_lt {n : Nat} (h : n < 2 ^ 64) : IntKind.u64.wrap (n : Int) = (n : Int) := by
  rw [wrap_u64, Nat.mod_eq_of_lt h]
theorem wi64 {n : Int} (h : -9223372036854775808 ≤ n) (h' : n ≤ 9223372036854775807) : IntKind.i64.wrap n = n := wrap_i64 h h'
theorem wi64_nat {n : Nat} (h : n < 2 ^ 63) : IntKind.i64.wrap (n : Int) = (n : Int) := wi64 (by omega) (by omega)
theorem ofInt_nat (n : Nat) : BitVec.ofInt 64 (n : Int) = BitVec.ofNat 64 n := by simp
theorem toNat_ofNat64 {n : Nat} (h : n < 2 ^ 64) : (BitVec.ofNat 64 n).toNat = n := by simp; omega
theorem u64_and {a b : Nat} (ha : a < 2 ^ 64) (hb : b < 2 ^ 64) : binIntA .and .u64 (a : Int) (b : Int) = some (.int .u64 ((a &&& b : Nat) : Int)) := by
  have : (BitVec.ofInt 64 (a : Int) &&& BitVec.ofInt 64 (b : Int)).toNat = a &&& b := by
    rw [ofInt_nat, ofInt_nat, BitVec.toNat_and, toNat_ofNat64 ha, toNat_ofNat64 hb]
  show some (AV.int .u64 (IntKind.u64.wrap ((BitVec.ofInt 64 (a : Int) &&& BitVec.ofInt 64 (b : Int)).toNat : Int))) = _
  rw [this, wrap_u64_lt (Nat.lt_of_le_of_lt Nat.and_le_left ha)]
theorem u64_or {a b : Nat} (ha : a < 2 ^ 64) (hb : b < 2 ^ 64) : binIntA .or .u64 (a : Int) (b : Int) = some (.int .u64 ((a ||| b : Nat) : Int)) := by
  have : (BitVec.ofInt 64 (a : Int) ||| BitVec.ofInt 64 (b : Int)).toNat = a ||| b := by
    rw [ofInt_nat, ofInt_nat, BitVec.toNat_or, toNat_ofNat64 ha, toNat_ofNat64 hb]
  show some (AV.int .u64 (IntKind.u64.wrap ((BitVec.ofInt 64 (a : Int) ||| BitVec.ofInt 64 (b : Int)).toNat : Int))) = _
  rw [this, wrap_u64_lt (Nat.or_lt_two_pow ha hb)]
theorem u64_xor {a b : Nat} (ha : a < 2 ^ 64) (hb : b < 2 ^ 64) : binIntA .xor .u64 (a : Int) (b : Int) = some (.int .u64 ((a ^^^ b : Nat) : Int)) := by
  have : (BitVec.ofInt 64 (a : Int) ^^^ BitVec.ofInt 64 (b : Int)).toNat = a ^^^ b := by
    rw [ofInt_nat, ofInt_nat, BitVec.toNat_xor, toNat_ofNat64 ha, toNat_ofNat64 hb]
  show some (AV.int .u64 (IntKind.u64.wrap ((BitVec.ofInt 64 (a : Int) ^^^ BitVec.ofInt 64 (b : Int)).toNat : Int))) = _
  rw [this, wrap_u64_lt (Nat.xor_lt_two_pow ha hb)]
theorem u64_andNot {a b : Nat} (ha : a < 2 ^ 64) (hb : b < 2 ^ 64) : binIntA .andNot .u64 (a : Int) (b : Int) = some (.int .u64 ((a &&& (2 ^ 64 - 1 - b) : Nat) : Int)) := by
  have : (BitVec.ofInt 64 (a : Int) &&& ~~~ BitVec.ofInt 64 (b : Int)).toNat = a &&& (2 ^ 64 - 1 - b) := by
    rw [ofInt_nat, ofInt_nat, BitVec.toNat_and, BitVec.toNat_not, toNat_ofNat64 ha, toNat_ofNat64 hb]
  show some (AV.int .u64 (IntKind.u64.wrap ((BitVec.ofInt 64 (a : Int) &&& ~~~ BitVec.ofInt 64 (b : Int)).toNat : Int))) = _
  rw [this, wrap_u64_lt (Nat.lt_of_le_of_lt Nat.and_le_left ha)]
theorem u64_shl {a y : Nat} (hy : y ≤ 64) : shiftA .shl .u64 (a : Int) (y : Int) = some (.int .u64 ((a * 2 ^ y % 2 ^ 64 : Nat) : Int)) := by
  have h0 : ¬ ((y : Int) < 0) := by omega
  simp only [shiftA, h0, if_false, Int.toNat_natCast, IntKind.bits, Nat.min_eq_left hy]
  have : (a : Int) * 2 ^ y = ((a * 2 ^ y : Nat) : Int) := by push_cast; rfl
  rw [this, wrap_u64]
theorem u64_shr {a y : Nat} (hy : y ≤ 64) : shiftA .shr .u64 (a : Int) (y : Int) = some (.int .u64 ((a / 2 ^ y : Nat) : Int)) := by
  have h0 : ¬ ((y : Int) < 0) := by omega
  simp only [shiftA, h0, if_false, Int.toNat_natCast, IntKind.bits, Nat.min_eq_left hy]
  have h2 : (0 : Int) ≤ 2 ^ y := Int.pow_nonneg (by decide)
  have : Int.fdiv (a : Int) (2 ^ y) = ((a / 2 ^ y : Nat) : Int) := by
    rw [Int.fdiv_eq_ediv_of_nonneg _ h2]
    push_cast; rfl
  rw [this]
theorem i64_shl {a : Int} {y : Nat} (hy : y ≤ 64) (h1 : -9223372036854775808 ≤ a * 2 ^ y) (h2 : a * 2 ^ y ≤ 9223372036854775807) : shiftA .shl .i64 a (y : Int) = some (.int .i64 (a * 2 ^ y)) := by
  have h0 : ¬ ((y : Int) < 0) := by omega
  simp only [shiftA, h0, if_false, Int.toNat_natCast, IntKind.bits, Nat.min_eq_left hy, wi64 h1 h2]
theorem i64_shr {a : Int} {y : Nat} (hy : y ≤ 64) : shiftA .shr .i64 a (y : Int) = some (.int .i64 (a / 2 ^ y)) := by
  have h0 : ¬ ((y : Int) < 0) := by omega
  simp only [shiftA, h0, if_false, Int.toNat_natCast, IntKind.bits, Nat.min_eq_left hy]
  rw [Int.fdiv_eq_ediv_of_nonneg _ (Int.pow_nonneg (by decide))]
end Go.Ab
/-! Symbolic runs: a range over a function, and a frame with the loop's mark. Conditions: in each statement. -/
set_option linter.unusedSimpArgs false
set_option linter.unusedVariables false
namespace Go.Ab
open Go
theorem oy_range [E : Env] {P : Program} {lo : Nat} {f : Operand} {params : Array Tmp} {assign body : Code} {env : List AV} {marks : List Nat} {H H3 : Heap} {fn g : FuncId} {first cap : List AV} {v0 : AV}
    {fn' : FuncId} {tm' : List AV} {pa' : List Tmp} {a' b' : Code} {d' : Nat} (hf : evalO env f = some (.func g first cap))
    (hc : callA P (om P) lo g (first ++ [AV.yieldf (H.next + 1)] ++ cap) ((H.push .dfr).push (.loop .ready none fn env params.toList assign body H.next)) = some (v0, H3))
    (hl : H3.get (H.next + 1) = some (.loop .ready none fn' tm' pa' a' b' d')) :
    om P ⟨fn, none⟩ lo (.rangeFunc f params assign body) ⟨env, marks, H⟩ = some (.normal, ⟨env, H.next :: marks, H3.kill (H.next + 1)⟩) := by
  rw [om_eq]
  simp only [stepX, hf, loopStart]
  have e : (H.push .dfr).next = H.next + 1 := rfl
  simp only [e, hc, hl]
  rfl
theorem roundA_ok [E : Env] {P : Program} {lo l : Nat} {args : List AV} {H H2 H4 : Heap} {s0 : LoopState} {p0 : Option Code} {fn : FuncId} {tmps : List AV} {params : List Tmp} {assign body : Code} {d : Nat} {env1 env2 env3 : List AV}
    (h0 : H.get l = some (.loop s0 p0 fn tmps params assign body d)) (hlo : lo ≤ l) (hp : setParams tmps params args = some env1)
    (ha : om P ⟨fn, some l⟩ lo assign ⟨env1, [], H⟩ = some (.normal, ⟨env2, [], H2⟩)) (h2 : H2.get l = some (.loop .ready none fn tmps params assign body d))
    (hb : om P ⟨fn, some l⟩ lo body ⟨env2, [], H2.set l (.loop .busy none fn tmps params assign body d)⟩ = some (.normal, ⟨env3, [], H4⟩)) (h4 : H4.get l = some (.loop .busy none fn tmps params assign body d)) :
    roundA (om P) lo l args H = some (.bool true, H4.set l (.loop .ready none fn tmps params assign body d)) := by
  unfold roundA
  simp only [h0, hlo, if_true, hp, ha, h2, hb, endRoundA, h4]
  rfl
theorem fin_mark [E : Env] {P : Program} {own : Bool} {rs : List ResultVar} {H H' : Heap} {env : List AV} {d : Nat} (h : H'.get d = some .dfr) : fin P own rs H (some (.ret, ⟨env, [d], H'⟩)) = finv own H (H'.kill d) (resultsA P (H'.kill d) env rs) := by
  simp only [fin, dropMarks, h, finv]
end Go.Ab
/-! Plain data that came in (numbers, truths, strings, structs, arrays and slices of these) as the interpreter takes it: opening, staying. Conditions: in each statement. -/
namespace Go.Ab
open Go Go.RowKit
set_option linter.unusedSimpArgs false
set_option linter.unusedVariables false

/-- fields lie one behind the other and fill the type -/
def contig (P : Program) : List Field → Nat → Nat → Bool
  | [], o, sz => o == sz
  | f :: fs, o, sz => f.offset == o && contig P fs (o + P.cellsOf f.type) sz
def isAggT (P : Program) (t : TypeId) : Bool := match P.underlying t with | some (.struct _) | some (.array ..) => true | _ => false
/-- plain data, to a depth -/
def plainB (P : Program) (n : Nat) : TypeId → Bool := Nat.rec (fun _ => false) (fun _ ih t => match P.underlying t with
  | some (.int _) | some .bool | some .string => true
  | some (.struct fs) => contig P fs.toList 0 (P.cellsOf t) && fs.toList.all fun f => ih f.type
  | some (.slice e) => decide (0 < P.cellsOf e) && (isAggT P e || decide (P.cellsOf e = 1)) && ih e
  | _ => false) n
/-- the cells of fields -/
def ShF (S : TypeId → List AV → Prop) : List TypeId → List AV → Prop
  | [], cs => cs = []
  | t :: ts, cs => ∃ c1 c2, cs = c1 ++ c2 ∧ S t c1 ∧ ShF S ts c2
/-- the value of cells -/
def ofCells (P : Program) (t : TypeId) (cs : List AV) : AV := if isAggT P t then .agg cs else cs.headD undefA
/-- what the cells of a type look like -/
def ShC (P : Program) (n : Nat) : TypeId → List AV → Prop := Nat.rec (fun _ _ => False) (fun _ ih t cs => match P.underlying t with
  | some (.int k) => ∃ i, cs = [.int k i] ∧ (Lit.int k i).wf = true
  | some .bool => ∃ b, cs = [.bool b]
  | some .string => ∃ s : ByteArray, cs = [.str s] ∧ s.size ≤ maxLen
  | some (.struct fs) => ShF ih (fs.toList.map (·.type)) cs
  | some (.slice e) => ∃ a cap l, cs = [.rsl a cap (P.cellsOf e) l] ∧ l.length ≤ maxLen ∧ (l ≠ [] → a.isSome = true) ∧ ∀ x ∈ l, ∃ c, x = ofCells P e c ∧ ih e c
  | _ => False) n
theorem ShC_succ (P : Program) (n : Nat) (t : TypeId) (cs : List AV) : ShC P (n + 1) t cs = match P.underlying t with
  | some (.int k) => ∃ i, cs = [.int k i] ∧ (Lit.int k i).wf = true
  | some .bool => ∃ b, cs = [.bool b]
  | some .string => ∃ s : ByteArray, cs = [.str s] ∧ s.size ≤ maxLen
  | some (.struct fs) => ShF (ShC P n) (fs.toList.map (·.type)) cs
  | some (.slice e) => ∃ a cap l, cs = [.rsl a cap (P.cellsOf e) l] ∧ l.length ≤ maxLen ∧ (l ≠ [] → a.isSome = true) ∧ ∀ x ∈ l, ∃ c, x = ofCells P e c ∧ ShC P n e c
  | _ => False := rfl
theorem plainB_succ (P : Program) (n : Nat) (t : TypeId) : plainB P (n + 1) t = match P.underlying t with
  | some (.int _) | some .bool | some .string => true
  | some (.struct fs) => contig P fs.toList 0 (P.cellsOf t) && fs.toList.all fun f => plainB P n f.type
  | some (.slice e) => decide (0 < P.cellsOf e) && (isAggT P e || decide (P.cellsOf e = 1)) && plainB P n e
  | _ => false := rfl

theorem concL_append (ι : Inj) : ∀ a b : List AV, AV.concL ι (a ++ b) = AV.concL ι a ++ AV.concL ι b
  | [], b => rfl
  | x :: a, b => by simp [AV.concL, concL_append ι a b]
theorem concL_len (ι : Inj) : ∀ a : List AV, (AV.concL ι a).length = a.length
  | [] => rfl
  | x :: a => by simp [AV.concL, concL_len ι a]
theorem concL_at (ι : Inj) : ∀ (a : List AV) (j : Nat) (c : AV), a[j]? = some c → (AV.concL ι a)[j]? = some (c.conc ι)
  | [], j, c, h => by simp at h
  | x :: a, 0, c, h => by simp at h; subst h; simp [AV.concL]
  | x :: a, j + 1, c, h => by simp only [List.getElem?_cons_succ] at h; simp only [AV.concL, List.getElem?_cons_succ]; exact concL_at ι a j c h
theorem cell_lt' {w : World} {a : Addr} {v : Value} (h : w.cell? a = some v) : a.block < w.heap.size := by
  by_cases e : a.block < w.heap.size
  · exact e
  · have : w.heap[a.block]? = none := Array.getElem?_eq_none (by omega)
    unfold World.cell? at h
    simp [this] at h
/-- elements one by one, gathered -/
theorem gather {α : Type} [Inhabited α] {p : Nat → α → Prop} : ∀ n : Nat, (∀ i, i < n → ∃ x, p i x) → ∃ l : List α, l.length = n ∧ ∀ i x, l[i]? = some x → p i x
  | 0, _ => ⟨[], rfl, by simp⟩
  | n + 1, h => by
    obtain ⟨l, h1, h2⟩ := gather n fun i hi => h i (by omega)
    obtain ⟨x, hx⟩ := h n (by omega)
    refine ⟨l ++ [x], by simp [h1], fun i q hq => ?_⟩
    rw [List.getElem?_append] at hq
    split at hq
    · exact h2 i q hq
    · rename_i hge
      have e : i - l.length = 0 := by
        by_cases e : i - l.length = 0
        · exact e
        · rw [List.getElem?_eq_none (by simp; omega)] at hq; cases hq
      rw [e] at hq
      simp at hq
      subst hq
      obtain rfl : i = n := by omega
      exact hx
/-- a list whose members are all images -/
theorem choose_list {α β : Type} {f : β → α} {p : β → Prop} : ∀ l : List α, (∀ x ∈ l, ∃ y, x = f y ∧ p y) → ∃ ys : List β, l = ys.map f ∧ ∀ y ∈ ys, p y
  | [], _ => ⟨[], rfl, by simp⟩
  | x :: l, h => by
    obtain ⟨y, rfl, hy⟩ := h x (by simp)
    obtain ⟨ys, rfl, hys⟩ := choose_list l fun x hx => h x (by simp [hx])
    exact ⟨y :: ys, rfl, fun z hz => (List.mem_cons.1 hz).elim (fun e => e ▸ hy) (hys z)⟩

section
variable {H : Type} {enc : TypeId × Value → H} {P : Program} {W : World}
theorem open_fields {S : TypeId → List AV → Prop} {cs : List Value} {sz : Nat} (hcs : cs.length = sz) (ok : List AV → Prop) (hnil : ok []) (happ : ∀ a b, ok a → ok b → ok (a ++ b)) :
    ∀ (fs : List Field) (o : Nat), contig P fs o sz = true → o ≤ sz → (∀ f ∈ fs, ∃ vs, (∀ ι, AV.concL ι vs = (cs.drop f.offset).take (P.cellsOf f.type)) ∧ ok vs ∧ S f.type vs) →
    ∃ vs, (∀ ι, AV.concL ι vs = cs.drop o) ∧ ok vs ∧ ShF S (fs.map (·.type)) vs
  | [], o, hc, ho, h => by
    simp [contig] at hc
    subst hc
    exact ⟨[], fun ι => by simp [AV.concL, ← hcs], hnil, rfl⟩
  | f :: fs, o, hc, ho, h => by
    simp only [contig, Bool.and_eq_true, beq_iff_eq] at hc
    obtain ⟨rfl, hc⟩ := hc
    obtain ⟨v1, a1, b1, c1⟩ := h f (by simp)
    have hle : f.offset + P.cellsOf f.type ≤ sz := contig_le fs _ hc
    obtain ⟨v2, a2, b2, c2⟩ := open_fields hcs ok hnil happ fs _ hc hle (fun g hg => h g (by simp [hg]))
    refine ⟨v1 ++ v2, fun ι => ?_, happ _ _ b1 b2, v1, v2, rfl, c1, c2⟩
    rw [concL_append, a1, a2, ← List.drop_drop, List.take_append_drop]
where contig_le {P : Program} {sz : Nat} : ∀ (fs : List Field) (o : Nat), contig P fs o sz = true → o ≤ sz
  | [], o, h => by simp [contig] at h; omega
  | f :: fs, o, h => by
    simp only [contig, Bool.and_eq_true, beq_iff_eq] at h
    have := contig_le fs _ h.2
    omega

theorem ofCells_cells {n : Nat} {e : TypeId} (hag : isAggT P e = true ∨ P.cellsOf e = 1) (c : List AV) (hc : c.length = P.cellsOf e) (hs : ShC P n e c) : (ofCells P e c).cells = c := by
  unfold ofCells
  split
  · rfl
  · rename_i hna
    cases n with
    | zero => exact hs.elim
    | succ n =>
      rw [ShC_succ] at hs
      unfold isAggT at hna
      split at hs
      · obtain ⟨i, rfl, _⟩ := hs; rfl
      · obtain ⟨b, rfl⟩ := hs; rfl
      · obtain ⟨s, rfl, _⟩ := hs; rfl
      · rename_i hu; rw [hu] at hna; simp at hna
      · obtain ⟨a, cap, l, rfl, _⟩ := hs; rfl
      · exact hs.elim
theorem ofCells_OK {w0 : World} {b k : Nat} {n : Nat} {e : TypeId} (hag : isAggT P e = true ∨ P.cellsOf e = 1) (c : List AV) (hc : c.length = P.cellsOf e) (hs : ShC P n e c) (h : AV.OKL w0 b k c) : (ofCells P e c).OK w0 b k := by
  unfold ofCells
  split
  · simpa [AV.OK] using h
  · rename_i hna
    rcases hag with hag | h1
    · exact absurd hag hna
    · match c, hc with
      | [y], _ => simpa [AV.OKL] using h
      | [], hc => simp at hc; omega
      | _ :: _ :: _, hc => simp at hc; omega

theorem open_cells : ∀ (n : Nat) (t : TypeId) (m : Nat) (cs : List Value) (x : DataW H × List MemPlace), plainB P n t = true → DataW.trod enc P W 0 (fun _ => true) true m t cs = some x →
    ∃ vs, (∀ ι, AV.concL ι vs = cs) ∧ AV.OKL W W.heap.size 0 vs ∧ ShC P n t vs
  | 0, t, m, cs, x, hp, h => by simp [plainB] at hp
  | n + 1, t, m, cs, x, hp, h => by
    rw [plainB_succ] at hp
    simp only [ShC_succ]
    split at hp
    · rename_i k hu
      obtain ⟨i, rfl, _, hw⟩ := DataW.trod_int hu h
      exact ⟨[.int k i], fun ι => rfl, by simp [AV.OKL, AV.OK], i, rfl, hw⟩
    · rename_i hu
      obtain ⟨b, rfl, _⟩ := DataW.trod_bool hu h
      exact ⟨[.bool b], fun ι => rfl, by simp [AV.OKL, AV.OK], b, rfl⟩
    · rename_i hu
      obtain ⟨s, rfl, _, hs⟩ := DataW.trod_string hu h
      exact ⟨[.str s], fun ι => rfl, by simp [AV.OKL, AV.OK], s, rfl, hs⟩
    · rename_i fs hu
      simp only [Bool.and_eq_true, List.all_eq_true] at hp
      obtain ⟨xs, m', _, _, hl, hxl, hfs⟩ := DataW.trod_struct hu h
      obtain ⟨vs, h1, h2, h3⟩ := open_fields (S := ShC P n) hl (AV.OKL W W.heap.size 0) (by simp [AV.OKL]) (fun a b ha hb => by rw [OKL_iff] at *; intro v hv; exact (List.mem_append.1 hv).elim (ha v) (hb v)) fs.toList 0 hp.1 (by omega) (fun f hf => by
        obtain ⟨i, hi⟩ := List.getElem?_of_mem hf
        have hi' : fs[i]? = some f := by simpa using hi
        have hlt : i < xs.length := by
          rw [hxl]
          by_cases e : i < fs.size
          · exact e
          · rw [Array.getElem?_eq_none (by omega)] at hi'; cases hi'
        have e := hfs i f hi'
        rw [List.getElem?_eq_getElem hlt] at e
        exact open_cells n f.type m' _ _ (hp.2 f hf) e)
      exact ⟨vs, fun ι => by rw [h1]; rfl, h2, h3⟩
    · rename_i e hu
      simp only [Bool.and_eq_true, decide_eq_true_eq, Bool.or_eq_true] at hp
      obtain ⟨⟨hz, hag⟩, hpe⟩ := hp
      rcases DataW.trod_slice hu h with ⟨rfl, _⟩ | ⟨a, len, cap, elems, rest, m', _, rfl, _, hb, hl, hm, hlen, hel, _, _⟩
      · exact ⟨[.rsl none 0 (P.cellsOf e) []], fun ι => rfl, by simp [AV.OKL, AV.OK], none, 0, [], rfl, by simp, by simp, by simp⟩
      · have each : ∀ i, i < len → ∃ c : List AV, ShC P n e c ∧ AV.OKL W W.heap.size 0 c ∧ c.length = P.cellsOf e ∧ a.block < W.heap.size ∧ ∀ ι j x, c[j]? = some x → W.cell? ((a.add (i * P.cellsOf e)).add j) = some (x.conc ι) := by
          intro i hi
          have he := hel i hi
          rw [List.getElem?_eq_getElem (by omega), Option.bind_eq_some_iff] at he
          obtain ⟨cs', hc1, hc2⟩ := he
          obtain ⟨c1, c2, c3⟩ := World.cells?_some hc1
          obtain ⟨vs, v1, v2, v3⟩ := open_cells n e m' _ _ hpe hc2
          have hvl : vs.length = P.cellsOf e := by rw [← concL_len (fun _ => (0, 0)) vs, v1, c2]
          refine ⟨vs, v3, v2, hvl, ?_, fun ι j x hx => ?_⟩
          · have d := c3 0 (by omega)
            rw [List.getElem?_eq_getElem (by omega)] at d
            have := cell_lt' d
            rwa [add_block, add_block] at this
          · have hj : j < vs.length := (List.getElem?_eq_some_iff.1 hx).1
            rw [c3 j (by omega), ← v1 ι]
            exact concL_at ι vs j x hx
        obtain ⟨l, hll, hle⟩ := gather len each
        refine ⟨[.rsl (some a) cap (P.cellsOf e) (l.map (ofCells P e))], fun ι => by simp [AV.concL, AV.conc, hll], ?_, some a, cap, _, rfl, by simp; omega, fun _ => rfl, fun x hx => ?_⟩
        · simp only [AV.OKL, AV.OK, and_true]
          refine ⟨by simp; omega, fun ι i x hx => ?_, ?_⟩
          · rw [List.getElem?_map] at hx
            cases hp : l[i]? with
            | none => rw [hp] at hx; simp at hx
            | some c =>
              rw [hp] at hx
              simp at hx
              subst hx
              obtain ⟨q1, q2, q3, q4, q5⟩ := hle i c hp
              rw [ofCells_cells hag c q3 q1]
              exact ⟨q4, q3, fun j y hy => q5 ι j y hy⟩
          · rw [OKL_iff]
            intro v hv
            obtain ⟨c, hc, rfl⟩ := List.mem_map.1 hv
            obtain ⟨i, hi⟩ := List.getElem?_of_mem hc
            obtain ⟨q1, q2, q3, q4, q5⟩ := hle i c hi
            exact ofCells_OK hag c q3 q1 q2
        · obtain ⟨c, hc, rfl⟩ := List.mem_map.1 hx
          obtain ⟨i, hi⟩ := List.getElem?_of_mem hc
          exact ⟨c, rfl, (hle i c hi).1⟩
    · cases hp
/-- a value that came in: what the interpreter takes for it -/
theorem open_any {r : Go.Reach} {b0 : Nat} {n : Nat} {t : TypeId} {v : Value} {d : DataW H} {ps : List MemPlace} (hp : plainB P n t = true) (hval : Value.okWide P W r b0 t v) (h : DataW.Trod enc P W 0 (fun _ => true) true t v d ps) :
    ∃ c, (∀ ι, (ofCells P t c).conc ι = v) ∧ (ofCells P t c).OK W W.heap.size 0 ∧ ShC P n t c := by
  obtain ⟨m, hm⟩ := h
  obtain ⟨vs, h1, h2, h3⟩ := open_cells n t m _ _ hp hm
  refine ⟨vs, fun ι => ?_, ?_, h3⟩
  · cases n with
    | zero => exact h3.elim
    | succ n =>
      rw [plainB_succ] at hp
      have h1 := h1 ι
      unfold ofCells isAggT
      split at hp
      · rename_i k hu
        obtain ⟨i, rfl⟩ := WideShapes.okWide_int hu hval
        rw [hu]
        match vs, h1 with
        | [y], h1 => simpa [AV.concL, Value.cells] using h1
        | [], h1 => simp [AV.concL, Value.cells] at h1
        | _ :: _ :: _, h1 => simp [AV.concL, Value.cells] at h1
      · rename_i hu
        obtain ⟨i, rfl⟩ := WideShapes.okWide_bool hu hval
        rw [hu]
        match vs, h1 with
        | [y], h1 => simpa [AV.concL, Value.cells] using h1
        | [], h1 => simp [AV.concL, Value.cells] at h1
        | _ :: _ :: _, h1 => simp [AV.concL, Value.cells] at h1
      · rename_i hu
        obtain ⟨i, rfl⟩ := WideShapes.okWide_string hu hval
        rw [hu]
        match vs, h1 with
        | [y], h1 => simpa [AV.concL, Value.cells] using h1
        | [], h1 => simp [AV.concL, Value.cells] at h1
        | _ :: _ :: _, h1 => simp [AV.concL, Value.cells] at h1
      · rename_i fs hu
        obtain ⟨cs, rfl, _⟩ := WideShapes.okWide_struct hu hval
        rw [hu]
        simp only [if_true, AV.conc, h1, Value.cells, Array.toArray_toList]
      · rename_i e hu
        obtain ⟨a, l, c, rfl⟩ := WideShapes.okWide_slice hu hval
        rw [hu]
        match vs, h1 with
        | [y], h1 => simpa [AV.concL, Value.cells] using h1
        | [], h1 => simp [AV.concL, Value.cells] at h1
        | _ :: _ :: _, h1 => simp [AV.concL, Value.cells] at h1
      · cases hp
  · unfold ofCells
    split
    · simpa [AV.OK] using h2
    · match vs, h2 with
      | [], _ => simp [undefA, AV.OK, AV.OKL]
      | y :: _, h2 => exact h2.1
/-- what came in stays -/
theorem stay_any {t : TypeId} {W W' : World} {v : Value} {d : DataW H} {ps : List MemPlace} (hl : laidOutB P = true) (hr : P.readableRec t = true) (hrow : t < P.types.size)
    (h : DataW.Trod enc P W 0 (fun _ => true) true t v d ps) (bel : Below W.heap.size W W') : DataW.Trod enc P W' 0 (fun b => decide (b < W.heap.size)) true t v d ps := by
  have hlt : ∀ p ∈ ps, p.block < W.heap.size := by
    obtain ⟨n, hn⟩ := h
    exact DataW.trod_lt n t _ _ hn
  exact Go.WideElems.Trod_stays hl hr hrow h (fun p hp => bel.same (hlt p hp)) (fun p hp => by simpa using hlt p hp)
end
end Go.Ab
/-! Memory as it is read: what a pointer points to (Pt), what a slice holds (Sv), whether it came in or is own; heaps that have grown (Ext). Conditions: in each statement. -/
namespace Go.Ab
open Go
set_option linter.unusedSimpArgs false
set_option linter.unusedVariables false

/-- nothing lies above the heap's end -/
def Lt (H : Heap) : Prop := ∀ b x, H.get b = some x → b < H.next
/-- grown: what was there is as it was -/
def Ext (H H' : Heap) : Prop := H.next ≤ H'.next ∧ (∀ b, b < H.next → H'.get b = H.get b) ∧ (Lt H → Lt H')
theorem Ext.refl (H : Heap) : Ext H H := ⟨Nat.le_refl _, fun _ _ => rfl, id⟩
theorem Ext.trans {H H1 H2 : Heap} (h : Ext H H1) (k : Ext H1 H2) : Ext H H2 := ⟨Nat.le_trans h.1 k.1, fun b hb => by rw [k.2.1 b (Nat.lt_of_lt_of_le hb h.1), h.2.1 b hb], fun l => k.2.2 (h.2.2 l)⟩
theorem Ext.push {H H1 : Heap} (h : Ext H H1) (x : Blk) : Ext H (H1.push x) :=
  ⟨by have := h.1; simp; omega, fun b hb => by have := h.1; rw [Heap.get_push, if_neg (by omega)]; exact h.2.1 b hb, fun l b y hy => by
    rw [Heap.get_push] at hy
    split at hy
    · simp; omega
    · have := h.2.2 l b y hy; simp; omega⟩
theorem Ext.set {H H1 : Heap} (h : Ext H H1) {c : Nat} (hc : H.next ≤ c) (x : Blk) (hn : c < H1.next := by simp) : Ext H (H1.set c x) :=
  ⟨h.1, fun b hb => by rw [Heap.get_set, if_neg (by omega)]; exact h.2.1 b hb, fun l b y hy => by
    rw [Heap.get_set] at hy
    split at hy
    · subst_vars; exact hn
    · exact h.2.2 l b y hy⟩
theorem Ext.kill {H H1 : Heap} (h : Ext H H1) {c : Nat} (hc : H.next ≤ c) : Ext H (H1.kill c) :=
  ⟨h.1, fun b hb => by rw [Heap.get_kill, if_neg (by omega)]; exact h.2.1 b hb, fun l b y hy => by
    rw [Heap.get_kill] at hy
    split at hy
    · cases hy
    · exact h.2.2 l b y hy⟩

/-- v points to the cells cs -/
def Pt (H : Heap) (v : AV) (cs : List AV) : Prop :=
  (∃ a r, v = .rptr a r ∧ cs.length ≤ r.length ∧ r.take cs.length = cs) ∨
  (∃ b o t c, v = .ptr b o ∧ b < H.next ∧ H.get b = some (.cells t c) ∧ o + cs.length ≤ c.length ∧ (c.drop o).take cs.length = cs)
theorem Pt.ext {H H' : Heap} {v : AV} {cs : List AV} (h : Pt H v cs) (e : Ext H H') : Pt H' v cs := by
  rcases h with h | ⟨b, o, t, c, h1, h2, h3, h4, h5⟩
  · exact .inl h
  · exact .inr ⟨b, o, t, c, h1, Nat.lt_of_lt_of_le h2 e.1, by rw [e.2.1 b h2]; exact h3, h4, h5⟩
theorem Pt.cells {H : Heap} {v : AV} {cs : List AV} (h : Pt H v cs) {n : Nat} (hn : n ≤ cs.length) : cellsAt H n v = some (cs.take n) := by
  rcases h with ⟨a, r, rfl, h1, h2⟩ | ⟨b, o, t, c, rfl, _, h3, h4, h5⟩
  · simp only [cellsAt]
    rw [if_pos (by omega), ← h2, List.take_take, Nat.min_eq_left hn]
  · simp only [cellsAt, h3]
    rw [if_pos (by omega), ← h5, List.take_take, Nat.min_eq_left hn]
theorem Pt.agg {P : Program} {H : Heap} {v : AV} {cs : List AV} {t : TypeId} (h : Pt H v cs) (ha : isAggA P t = some true) (hs : sizeA P t = some cs.length) : loadA P H t v = some (.agg cs) := by
  simp only [loadA, ha, hs, h.cells (Nat.le_refl _), List.take_length, Option.map]
theorem Pt.leaf {P : Program} {H : Heap} {v x : AV} {cs : List AV} {t : TypeId} {s : Option Nat} (h : Pt H v (x :: cs)) (ha : isAggA P t = some false) : loadA P H t v = some x := by
  have := h.cells (n := 1) (by simp)
  simp only [List.take_succ_cons, List.take_zero] at this
  unfold loadA
  rw [ha]
  simp only [this]
theorem Pt.drop {H : Heap} {v : AV} {cs : List AV} (h : Pt H v cs) (k : Nat) (hk : k ≤ cs.length) : (∃ a r, v = .rptr a r ∧ ∀ d, Pt H (.rptr d (r.drop k)) (cs.drop k)) ∨ (∃ b o, v = .ptr b o ∧ Pt H (.ptr b (o + k)) (cs.drop k)) := by
  rcases h with ⟨a, r, rfl, h1, h2⟩ | ⟨b, o, t, c, rfl, h2, h3, h4, h5⟩
  · refine .inl ⟨a, r, rfl, fun d => .inl ⟨d, _, rfl, by simp; omega, ?_⟩⟩
    rw [List.length_drop, ← List.drop_take, h2]
  · refine .inr ⟨b, o, rfl, .inr ⟨b, o + k, t, c, rfl, h2, h3, by simp; omega, ?_⟩⟩
    rw [List.length_drop, ← List.drop_drop, ← List.drop_take, h5]
theorem Pt.field {P : Program} {H : Heap} {v : AV} {cs : List AV} {t : TypeId} {fs : Array Field} {f : Field} {i s : Nat} (h : Pt H v cs) (hu : P.underlying t = some (.struct fs)) (hf : fs[i]? = some f) (hs : sizeA P f.type = some s) (h0 : s ≠ 0) (hk : f.offset ≤ cs.length) :
    ∃ q, fieldAddrA P t v i = some q ∧ Pt H q (cs.drop f.offset) := by
  rcases h.drop f.offset hk with ⟨a, r, rfl, h1⟩ | ⟨b, o, rfl, h1⟩
  · exact ⟨.rptr (a.add f.offset) (r.drop f.offset), by simp only [fieldAddrA, hu, hf, hs, if_neg h0], h1 _⟩
  · exact ⟨_, by simp only [fieldAddrA, hu, hf, hs, if_neg h0], h1⟩

theorem flat_at {sz : Nat} : ∀ (vs : List AV) (i : Nat) (x : AV), (∀ x ∈ vs, x.cells.length = sz) → vs[i]? = some x → ((vs.flatMap AV.cells).drop (i * sz)).take sz = x.cells ∧ (i + 1) * sz ≤ (vs.flatMap AV.cells).length
  | [], i, x, _, h => by simp at h
  | y :: vs, 0, x, hl, h => by
    simp only [List.getElem?_cons_zero, Option.some.injEq] at h
    subst h
    have hy := hl y (by simp)
    rw [Nat.zero_mul, List.drop_zero, List.flatMap_cons, List.take_append, hy, Nat.sub_self, List.take_zero, List.append_nil, ← hy, List.take_length]
    exact ⟨rfl, by rw [List.length_append]; omega⟩
  | y :: vs, i + 1, x, hl, h => by
    simp only [List.getElem?_cons_succ] at h
    obtain ⟨h1, h2⟩ := flat_at vs i x (fun z hz => hl z (by simp [hz])) h
    have hy := hl y (by simp)
    have e : (i + 1) * sz = sz + i * sz := by rw [Nat.succ_mul, Nat.add_comm]
    have e2 : (i + 1 + 1) * sz = sz + (i + 1) * sz := by rw [Nat.succ_mul (i + 1), Nat.add_comm]
    rw [List.flatMap_cons]
    constructor
    · rw [e, List.drop_append, hy, List.drop_eq_nil_of_le (by omega), List.nil_append, Nat.add_sub_cancel_left]
      exact h1
    · rw [List.length_append, hy, e2]; omega
/-- v is a slice of the values vs, of sz cells each -/
def Sv (H : Heap) (sz : Nat) (v : AV) (vs : List AV) : Prop := (∀ x ∈ vs, x.cells.length = sz) ∧
  ((∃ a cap s, v = .rsl a cap s vs ∧ (vs ≠ [] → a.isSome = true ∧ s = sz)) ∨
   (∃ b i t c, v = .sl b i vs.length sz ∧ b < H.next ∧ H.get b = some (.cells t c) ∧ (i + vs.length) * sz ≤ c.length ∧ (c.drop (i * sz)).take (vs.length * sz) = vs.flatMap AV.cells))
theorem Sv.ext {H H' : Heap} {sz : Nat} {v : AV} {vs : List AV} (h : Sv H sz v vs) (e : Ext H H') : Sv H' sz v vs := by
  obtain ⟨h0, h | ⟨b, i, t, c, h1, h2, h3, h4⟩⟩ := h
  · exact ⟨h0, .inl h⟩
  · exact ⟨h0, .inr ⟨b, i, t, c, h1, Nat.lt_of_lt_of_le h2 e.1, by rw [e.2.1 b h2]; exact h3, h4⟩⟩
theorem Sv.len {P : Program} {H : Heap} {sz : Nat} {v : AV} {vs : List AV} {t e : TypeId} (h : Sv H sz v vs) (hu : P.underlying t = some (.slice e)) : lenTA P H (some t) v = some vs.length := by
  obtain ⟨_, ⟨a, cap, s, rfl, _⟩ | ⟨b, i, t', c, rfl, _⟩⟩ := h <;> simp only [lenTA, Option.bind_some, hu]
theorem Sv.at {P : Program} {H : Heap} {sz : Nat} {v x : AV} {vs : List AV} {t e : TypeId} {k : IntKind} {i : Nat} (h : Sv H sz v vs) (hu : P.underlying t = some (.slice e)) (hs : sizeA P e = some sz) (hi : vs[i]? = some x) :
    ∃ q, indexAddrA P t v (.int k i) = some q ∧ Pt H q x.cells := by
  have hlt : i < vs.length := (List.getElem?_eq_some_iff.1 hi).1
  obtain ⟨h0, ⟨a, cap, s, rfl, ha⟩ | ⟨b, j, t', c, rfl, h2, h3, h4, h5⟩⟩ := h
  · have hne : vs ≠ [] := by rintro rfl; simp at hi
    obtain ⟨ha1, hs1⟩ := ha hne
    cases a with
    | none => exact absurd ha1 (by simp)
    | some a => exact ⟨.rptr (a.add (i * sz)) x.cells, by simp [indexAddrA, hu, hs, hi, hs1], .inl ⟨_, _, rfl, Nat.le_refl _, List.take_length⟩⟩
  · obtain ⟨g1, g2⟩ := flat_at vs i x h0 hi
    have hx := h0 x (List.mem_of_getElem? hi)
    have hm : (i + 1) * sz ≤ vs.length * sz := Nat.mul_le_mul_right sz hlt
    refine ⟨.ptr b (j * sz + i * sz), by simp [indexAddrA, hu, hs, hlt], .inr ⟨b, _, t', c, rfl, h2, h3, ?_, ?_⟩⟩
    · rw [hx]
      rw [Nat.add_mul] at h4
      rw [Nat.succ_mul] at hm
      omega
    · rw [hx, ← List.drop_drop, ← g1, ← h5, List.drop_take, List.take_take]
      rw [Nat.succ_mul] at hm
      rw [Nat.min_eq_left (by omega)]
end Go.Ab
/-! Symbolic runs over an environment of which only some slots are known; and-chains; blocks of a grown heap. Conditions: in each statement. -/
set_option linter.unusedSimpArgs false
set_option linter.unusedVariables false
namespace Go.Ab
open Go

/-- a slot -/
def gd (e : List AV) (t : Nat) : AV := e.getD t undefA
theorem gd_eq {e : List AV} {d : Nat} {v : AV} (h : d < e.length) : gd (e.set d v) d = v := by
  unfold gd; rw [List.getD_eq_getElem?_getD, List.getElem?_set_self h]; rfl
theorem gd_ne {e : List AV} {d t : Nat} {v : AV} (h : d ≠ t) : gd (e.set d v) t = gd e t := by
  unfold gd; rw [List.getD_eq_getElem?_getD, List.getElem?_set_ne h, List.getD_eq_getElem?_getD]
theorem gd_getD {e : List AV} {t : Nat} : e.getD t undefA = gd e t := rfl
/-- what a slot says to a guard -/
def yb : AV → Option Bool
  | .bool b => some b
  | _ => none
theorem yb_bool {b : Bool} : yb (.bool b) = some b := rfl
theorem yb_undef : yb undefA = none := rfl
def yt (e : List AV) : Option Tmp → Option Bool
  | some t => yb (gd e t)
  | none => none
theorem yt_some {e : List AV} {t : Tmp} : yt e (some t) = yb (gd e t) := rfl
theorem yielded_yt {ops : Array Oper} {e : List AV} {j : Nat} : yieldedA ops e j = yt e ((ops[j]?).bind (·.dst)) := by
  unfold yieldedA
  cases (ops[j]?).bind (·.dst) with
  | none => rfl
  | some t =>
    show (match e[t]? with | some (.bool b) => some b | _ => none) = yb (gd e t)
    unfold gd
    rw [List.getD_eq_getElem?_getD]
    cases e[t]? with
    | none => rfl
    | some v => cases v <;> rfl
/-- a run's end: how, the heap, the environment's length and what holds of it -/
def Ends (r : Option (Ex × St)) (x : Ex) (n : Nat) (φ : List AV → Heap → Prop) : Prop := ∃ e H, r = some (x, ⟨e, [], H⟩) ∧ e.length = n ∧ φ e H
theorem gd_app {a b : List AV} {i : Nat} (h : i < a.length) : gd (a ++ b) i = gd a i := by
  unfold gd; rw [List.getD_eq_getElem?_getD, List.getElem?_append_left h, List.getD_eq_getElem?_getD]
/-- a call: its environment holds the arguments -/
theorem call_in [E : Env] {P : Program} {lo : Nat} {f : FuncId} {fn : Func} {c : Code} {args : List AV} {H : Heap} (hf : P.funcs[f]? = some fn) (hb : fn.body = some c) (hs : E.summ f args = none) :
    ∃ e : List AV, e.length = args.length + (fn.ntmps - args.length) ∧ (∀ i, i < args.length → gd e i = gd args i) ∧
    callA P (om P) lo f args H = fin P (AV.rfL args) fn.results.toList H (om P ⟨f, none⟩ (if AV.rfL args then H.next else lo) c ⟨e, [], H⟩) :=
  ⟨_, by simp, fun i hi => gd_app hi, call_eq hf hb hs⟩
end Go.Ab
/-! The interpreter over resolved operations: each operation with its types looked up once; regions by name. Conditions: none. -/
set_option linter.unusedSimpArgs false
set_option linter.unusedVariables false
set_option linter.unusedSectionVars false
namespace Go.Ab
open Go

/-- an operand: a slot, or a value -/
inductive Q where
  | s (t : Nat)
  | v (a : AV)
def Q.ev (e : List AV) : Q → AV
  | .s t => gd e t
  | .v a => a
def cQ : Operand → Option Q
  | .tmp t => some (.s t)
  | .const v => (ofVal v).map .v
  | .func f => some (.v (.func f [] []))
  | .global _ => none
def cQL : List Operand → Option (List Q)
  | [] => some []
  | x :: xs => match cQ x, cQL xs with | some q, some l => some (q :: l) | _, _ => none
def evQ (e : List AV) : List Q → List AV
  | [] => []
  | q :: l => q.ev e :: evQ e l
def cQP : List (Nat × Operand) → Option (List (Nat × Q))
  | [] => some []
  | (i, x) :: xs => match cQ x, cQP xs with | some q, some l => some ((i, q) :: l) | _, _ => none
def evP (e : List AV) : List (Nat × Q) → List (Nat × AV)
  | [] => []
  | (i, q) :: l => (i, q.ev e) :: evP e l

/-- resolved operations -/
inductive K where
  | mv (x : Q)
  | pick (c a b : Q)
  | new (t : TypeId) (z : List AV)
  | box (t : TypeId) (n : Nat) (x : Q)
  | ld (n : Option Nat) (x : Q)
  | st (n : Nat) (a x : Q)
  | nz (x : Q)
  | bin (op : BinOp) (t : TypeId) (x y : Q)
  | un (op : UnOp) (x : Q)
  | fa (off : Nat) (x : Q)
  | fld (off : Nat) (n : Option Nat) (x : Q)
  | ixs (sz : Nat) (x i : Q)
  | six (x i : Q)
  | lens (x : Q)
  | lenl (x : Q)
  | call (f : FuncId) (args : List Q)
  | callv (f : Q) (args : List Q)
  | ext (i : Nat) (x : Q)
  | cvt (k : IntKind) (x : Q)
  | mkf (f : FuncId) (first cap : List Q)
  | bld (z : List AV) (ps : List (Nat × Nat)) (parts : List (Nat × Q))
  | bsl (t : TypeId) (s : Nat) (z : List AV) (len : Nat) (parts : List (Nat × Q))
  | raw (o : Op)
/-- a resolved operation, its target, its guard (a slot and what it must say), whether it can do without its value being free of memory -/
structure O where
  d : Option Nat
  g : Option (Option Nat × Bool)
  q : Bool
  k : K

def ld1 (H : Heap) (v : AV) : Option AV := match cellsAt H 1 v with | some [x] => some x | _ => none
def ldA (H : Heap) (n : Option Nat) (v : AV) : Option AV := match n with | some n => (cellsAt H n v).map .agg | none => ld1 H v
def faA (off : Nat) : AV → Option AV
  | .ptr b o => some (.ptr b (o + off))
  | .rptr a cs => some (.rptr (a.add off) (cs.drop off))
  | _ => none
def partK (cs : List AV) (off : Nat) : Option Nat → Option AV
  | some n => some (.agg ((cs.drop off).take n))
  | none => cs[off]?
def fldA (off : Nat) (n : Option Nat) : AV → Option AV
  | .agg cs => partK cs off n
  | _ => none
def ixA (s : Nat) : AV → AV → Option AV
  | .rsl (some a) _ sz l, .int _ i => if s = sz && decide (0 ≤ i) then match l[i.toNat]? with | some v => some (.rptr (a.add (i.toNat * s)) v.cells) | none => none else none
  | .sl b j n sz, .int _ i => if s = sz && decide (0 ≤ i) && decide (i < n) then some (.ptr b (j * s + i.toNat * s)) else none
  | _, _ => none
def sixA : AV → AV → Option AV
  | .str s, .int _ i => if 0 ≤ i then match s.data.toList[i.toNat]? with | some b => some (.int .u8 b.toNat) | none => none else none
  | _, _ => none
def lensA : AV → Option AV
  | .str s => some (.int .i64 s.size)
  | _ => none
def lenlA : AV → Option AV
  | .rsl _ _ _ l => some (.int .i64 l.length)
  | .sl _ _ n _ => some (.int .i64 n)
  | _ => none
def nzA : AV → Option AV
  | .ptr b o => some (.ptr b o)
  | .rptr a cs => some (.rptr a cs)
  | .func f a b => some (.func f a b)
  | _ => none
def cvtA (k : IntKind) : AV → Option AV
  | .int _ n => some (.int k (k.wrap n))
  | _ => none
def pickA (c a b : AV) : Option AV := match c with | .bool t => some (if t then a else b) | _ => none
def extA (i : Nat) : AV → Option AV
  | .tup vs => vs[i]?
  | _ => none
def stA (lo : Nat) (H : Heap) (n : Nat) (a v : AV) : Option Heap := if v.cells.length = n then storeCellsA lo H a v.cells else none
def boxA (t : TypeId) (n : Nat) (H : Heap) (v : AV) : Option (AV × Heap) := if v.cells.length = n && leafs v.cells then some (.ptr H.next 0, H.push (.cells t v.cells)) else none
def bslA (H : Heap) (t : TypeId) (s : Nat) (z : List AV) (len : Nat) (ps : List (Nat × AV)) : Option (AV × Heap) :=
  if ps.all (fun p => leafs p.2.cells) then
    match fillA (fun i => some (i * s, s)) z ps with
    | some cs => some (.sl H.next 0 len s, H.push (.cells t cs))
    | none => none
  else none
/-- a value and the heap as it is -/
def same (H : Heap) (v : Option AV) : Option (AV × Heap) := match v with | some v => some (v, H) | none => none
/-- no value, and a new heap -/
def put (H : Option Heap) : Option (AV × Heap) := match H with | some H => some (undefA, H) | none => none
section
variable [E : Env]
noncomputable def kA (P : Program) (ex : ExF) (lo : Nat) (e : List AV) (H : Heap) : K → Option (AV × Heap)
  | .mv x => some (x.ev e, H)
  | .pick c a b => same H (pickA (c.ev e) (a.ev e) (b.ev e))
  | .new t z => some (.ptr H.next 0, H.push (.cells t z))
  | .box t n x => boxA t n H (x.ev e)
  | .ld n x => same H (ldA H n (x.ev e))
  | .st n a x => put (stA lo H n (a.ev e) (x.ev e))
  | .nz x => same H (nzA (x.ev e))
  | .bin op t x y => same H (binA P op t (x.ev e) (y.ev e))
  | .un op x => same H (unA op (x.ev e))
  | .fa off x => same H (faA off (x.ev e))
  | .fld off n x => same H (fldA off n (x.ev e))
  | .ixs sz x i => same H (ixA sz (x.ev e) (i.ev e))
  | .six x i => same H (sixA (x.ev e) (i.ev e))
  | .lens x => same H (lensA (x.ev e))
  | .lenl x => same H (lenlA (x.ev e))
  | .call f args => callA P ex lo f (evQ e args) H
  | .callv f args => callV P ex lo (f.ev e) (evQ e args) H
  | .ext i x => same H (extA i (x.ev e))
  | .cvt k x => same H (cvtA k (x.ev e))
  | .mkf f a b => some (.func f (evQ e a) (evQ e b), H)
  | .bld z ps parts => same H ((fillA (fun i => ps[i]?) z (evP e parts)).map .agg)
  | .bsl t s z len parts => bslA H t s z len (evP e parts)
  | .raw op => opA P ex lo e H ⟨none, op, 0, "", #[], none⟩

def strT (P : Program) (t : TypeId) : Bool := match P.underlying t with | some .string => true | _ => false
def sliceT (P : Program) (t : TypeId) : Option Nat := match P.underlying t with | some (.slice e) => sizeA P e | _ => none
def fieldT (P : Program) (t : TypeId) (i : Nat) : Option Field := match P.underlying t with | some (.struct fs) => fs[i]? | _ => none
def aggT (P : Program) (t : TypeId) : Option (Option Nat) := match isAggA P t, sizeA P t with | some true, some n => some (some n) | some false, _ => some none | _, _ => none
def lenT (P : Program) (t : Option TypeId) : Option Bool := match t.bind P.underlying with | some .string => some true | some (.slice _) => some false | _ => none
def cvtT (P : Program) (a b : TypeId) : Option IntKind := match P.underlying a, P.underlying b with | some _, some (.int k) => some k | _, _ => none
def bldT (P : Program) (t : TypeId) : Option (List AV × List (Nat × Nat)) := match zeroA P t, P.underlying t with
  | some z, some (.struct fs) => (placesA P fs.toList).map fun ps => (z.cells, ps)
  | _, _ => none
def bslT (P : Program) (t : TypeId) (len : Nat) : Option (TypeId × Nat × List AV) := match P.underlying t with
  | some (.slice e) => match sizeA P e, zeroA P e with
    | some s, some z => if len * s ≤ 16777216 && z.cells.length = s && leafs z.cells then some (e, s, zerosA z.cells len) else none
    | _, _ => none
  | _ => none
def newT (P : Program) (t : TypeId) : Option (List AV) := match zeroA P t, sizeA P t with | some z, some s => if z.cells.length = s && leafs z.cells then some z.cells else none | _, _ => none

/-- an operation, resolved -/
def cK (P : Program) (op : Op) : K :=
  match op with
  | .move x | .assign x => match cQ x with | some q => .mv q | _ => .raw op
  | .pick c a b => match cQ c, cQ a, cQ b with | some c, some a, some b => .pick c a b | _, _, _ => .raw op
  | .alloc t => match newT P t with | some z => .new t z | none => .raw op
  | .box t x => match cQ x, sizeA P t with | some q, some n => .box t n q | _, _ => .raw op
  | .load t a => match cQ a, aggT P t with | some q, some n => .ld n q | _, _ => .raw op
  | .store t a x => match cQ a, cQ x, sizeA P t with | some a, some x, some n => .st n a x | _, _, _ => .raw op
  | .nilCheck x => match cQ x with | some q => .nz q | _ => .raw op
  | .binOp o t x y _ => match cQ x, cQ y with | some x, some y => .bin o t x y | _, _ => .raw op
  | .unOp o _ x => match cQ x with | some x => .un o x | _ => .raw op
  | .fieldAddr t x i => match cQ x, fieldT P t i with
    | some x, some f => match sizeA P f.type with | some s => if s = 0 then .raw op else .fa f.offset x | none => .raw op
    | _, _ => .raw op
  | .field t x i => match cQ x, fieldT P t i with
    | some x, some f => match aggT P f.type with | some n => .fld f.offset n x | none => .raw op
    | _, _ => .raw op
  | .indexAddr t x i => match cQ x, cQ i, sliceT P t with | some x, some i, some s => .ixs s x i | _, _, _ => .raw op
  | .index t x i => match cQ x, cQ i, strT P t with | some x, some i, true => .six x i | _, _, _ => .raw op
  | .call { callee := .value (.func f), args, .. } => match cQL args.toList with | some l => .call f l | none => .raw op
  | .call { callee := .value f, args, .. } => match cQ f, cQL args.toList with | some q, some l => .callv q l | _, _ => .raw op
  | .call { callee := .builtin .len, args, argTypes } => match args.toList with
    | [x] => match cQ x, lenT P argTypes[0]? with | some q, some true => .lens q | some q, some false => .lenl q | _, _ => .raw op
    | _ => .raw op
  | .extract x i => match cQ x with | some q => .ext i q | _ => .raw op
  | .convert a b x => match cQ x, cvtT P a b with | some q, some k => .cvt k q | _, _ => .raw op
  | .makeFunc (.func f) first cap => match cQL first.toList, cQL cap.toList with | some a, some b => .mkf f a b | _, _ => .raw op
  | .build t parts => match cQP parts.toList, bldT P t with | some ps, some (z, pl) => .bld z pl ps | _, _ => .raw op
  | .buildSlice t len parts => match cQP parts.toList, bslT P t len with | some ps, some (e, s, z) => .bsl e s z len ps | _, _ => .raw op
  | _ => .raw op

theorem cQ_ok {e : List AV} {x : Operand} {q : Q} (h : cQ x = some q) : evalO e x = some (q.ev e) := by
  cases x with
  | tmp t => cases h; rfl
  | const v =>
    simp only [cQ, Option.map_eq_some_iff] at h
    obtain ⟨a, ha, rfl⟩ := h
    simp only [evalO, ha]; rfl
  | func f => cases h; rfl
  | global g => cases h
theorem cQL_ok {e : List AV} : ∀ {l : List Operand} {qs : List Q}, cQL l = some qs → evalL e l = some (evQ e qs)
  | [], qs, h => by cases h; rfl
  | x :: l, qs, h => by
    simp only [cQL] at h
    split at h
    · rename_i q qs' h1 h2; cases h
      simp only [evalL, cQ_ok (e := e) h1, cQL_ok (e := e) h2, evQ]
    · cases h
theorem cQP_ok {e : List AV} : ∀ {l : List (Nat × Operand)} {qs : List (Nat × Q)}, cQP l = some qs → evalParts e l = some (evP e qs)
  | [], qs, h => by cases h; rfl
  | (i, x) :: l, qs, h => by
    simp only [cQP] at h
    split at h
    · rename_i q qs' h1 h2; cases h
      simp only [evalParts, cQ_ok (e := e) h1, cQP_ok (e := e) h2, evP]
    · cases h
theorem opA_raw {P : Program} {ex : ExF} {lo : Nat} {e : List AV} {H : Heap} {o : Oper} : opA P ex lo e H o = kA P ex lo e H (.raw o.op) := by
  simp only [kA, opA, aop]
theorem same_map {H : Heap} {v : Option AV} : v.map (fun v => (v, H)) = same H v := by cases v <;> rfl
theorem put_map {h : Option Heap} : h.map (fun h => (undefA, h)) = put h := by cases h <;> rfl
end
end Go.Ab
/-! The interpreter over resolved operations, 2: they do what the operations do. Conditions: none. -/
set_option linter.unusedSimpArgs false
set_option linter.unusedVariables false
set_option linter.unusedSectionVars false
namespace Go.Ab
open Go
section
variable [E : Env] {P : Program} {ex : ExF} {lo : Nat} {e : List AV} {H : Heap}
theorem aggT_ok {t : TypeId} {n : Option Nat} (h : aggT P t = some n) (v : AV) : loadA P H t v = ldA H n v := by
  unfold aggT at h
  unfold loadA
  split at h
  · rename_i h1 h2; cases h; simp only [h1, h2, ldA]
  · rename_i h1; cases h; rw [h1]; simp only [ldA, ld1]; rfl
  · cases h
theorem aggT_part {t : TypeId} {n : Option Nat} (h : aggT P t = some n) (cs : List AV) (off : Nat) : partA P t cs off = partK cs off n := by
  unfold aggT at h
  unfold partA
  split at h
  · rename_i h1 h2; cases h; simp only [h1, h2, partK]
  · rename_i h1; cases h; rw [h1]; simp only [partK]
  · cases h
theorem fieldT_ok {t : TypeId} {i : Nat} {f : Field} (h : fieldT P t i = some f) : ∃ fs, P.underlying t = some (.struct fs) ∧ fs[i]? = some f := by
  unfold fieldT at h
  split at h
  · rename_i fs hu; exact ⟨fs, hu, h⟩
  · cases h
theorem sliceT_ok {t : TypeId} {s : Nat} (h : sliceT P t = some s) (x ix : AV) : indexAddrA P t x ix = ixA s x ix := by
  unfold sliceT at h
  split at h
  · rename_i e hu
    cases x with
    | rsl a cap sz l => cases a <;> cases ix <;> simp only [indexAddrA, hu, h, ixA] <;> rfl
    | sl b j n sz => cases ix <;> simp only [indexAddrA, hu, h, ixA]
    | _ => cases ix <;> simp only [indexAddrA, hu, ixA]
  · cases h
theorem strT_ok {t : TypeId} (h : strT P t = true) (x ix : AV) : indexA P t x ix = sixA x ix := by
  unfold strT at h
  split at h
  · rename_i hu
    cases x <;> cases ix <;> simp only [indexA, hu, sixA] <;> rfl
  · cases h
theorem lenT_ok {t : Option TypeId} {b : Bool} (h : lenT P t = some b) (x : AV) : (lenTA P H t x).map (fun n : Nat => AV.int .i64 n) = if b then lensA x else lenlA x := by
  unfold lenT at h
  split at h
  · rename_i hu; cases h
    cases x <;> simp only [lenTA, hu, lensA, if_true, Option.map]
  · rename_i e hu; cases h
    cases x <;> simp only [lenTA, hu, lenlA, Bool.false_eq_true, if_false, Option.map]
  · cases h
theorem cvtT_ok {a b : TypeId} {k : IntKind} (h : cvtT P a b = some k) (x : AV) : convertA P H a b x = same H (cvtA k x) := by
  unfold cvtT at h
  split at h
  · rename_i k' h1 h2; cases h
    cases x <;> simp only [convertA, h1, h2, cvtA, same]
  · cases h
theorem bldT_ok {t : TypeId} {z : List AV} {ps : List (Nat × Nat)} (h : bldT P t = some (z, ps)) (parts : List (Nat × AV)) : buildA P t parts = (fillA (fun i => ps[i]?) z parts).map .agg := by
  unfold bldT at h
  split at h
  · rename_i z' fs h1 h2
    simp only [Option.map_eq_some_iff] at h
    obtain ⟨ps', h3, h4⟩ := h
    cases h4
    simp only [buildA, h1, h2, h3]
  · cases h
theorem bslT_ok {t e' : TypeId} {len s : Nat} {z : List AV} (h : bslT P t len = some (e', s, z)) (parts : List (Nat × AV)) : buildSliceA P H t len parts = bslA H e' s z len parts := by
  unfold bslT at h
  split at h
  · rename_i e1 hu
    split at h
    · rename_i s1 z1 h1 h2
      split at h
      · rename_i hc; cases h
        simp only [buildSliceA, hu, h1, h2, bslA]
        cases hp : parts.all fun p => leafs p.2.cells with
        | false => simp
        | true =>
          simp only [hc, Bool.and_true, if_true]
          rfl
      · cases h
    · cases h
  · cases h
theorem newT_ok {t : TypeId} {z : List AV} (h : newT P t = some z) : aop P lo e H ⟨none, .alloc t, 0, "", #[], none⟩ = some (.ptr H.next 0, H.push (.cells t z)) := by
  unfold newT at h
  split at h
  · rename_i z' s h1 h2
    split at h
    · rename_i hc; cases h
      simp only [aop, h1, h2, hc, if_true]
    · cases h
  · cases h
theorem evalL_args {f : FuncId} {vs : List AV} : callV P ex lo (.func f [] []) vs H = callA P ex lo f vs H := by
  simp only [callV, List.nil_append, List.append_nil]
theorem cK_ok (op : Op) : kA P ex lo e H (.raw op) = kA P ex lo e H (cK P op) := by
  cases op with
  | move x | assign x =>
    simp only [cK]
    cases h : cQ x with
    | none => rfl
    | some q => simp only [kA, opA, aop, cQ_ok (e := e) h, Option.map]
  | pick c a b =>
    simp only [cK]
    cases h1 : cQ c <;> cases h2 : cQ a <;> cases h3 : cQ b <;> try rfl
    rename_i qc qa qb
    simp only [kA, opA, aop, cQ_ok (e := e) h1, cQ_ok (e := e) h2, cQ_ok (e := e) h3]
    cases hq : qc.ev e <;> try rfl
    rename_i t
    cases t <;> rfl
  | alloc t =>
    simp only [cK]
    cases h : newT P t with
    | none => rfl
    | some z => simp only [kA, opA, newT_ok h]
  | box t x =>
    simp only [cK]
    cases h : cQ x <;> cases h2 : sizeA P t <;> try rfl
    simp only [kA, opA, aop, cQ_ok (e := e) h, h2, boxA]
  | load t a =>
    simp only [cK]
    cases h : cQ a <;> cases h2 : aggT P t <;> try rfl
    simp only [kA, opA, aop, cQ_ok (e := e) h, Option.bind, aggT_ok h2, same_map]
  | store t a x =>
    simp only [cK]
    cases h : cQ a <;> cases h2 : cQ x <;> cases h3 : sizeA P t <;> try rfl
    simp only [kA, opA, aop, cQ_ok (e := e) h, cQ_ok (e := e) h2, Option.bind, storeA, h3, stA, put_map]
  | nilCheck x =>
    simp only [cK]
    cases h : cQ x with
    | none => rfl
    | some q =>
      simp only [kA, opA, aop, cQ_ok (e := e) h]
      cases q.ev e <;> rfl
  | binOp o t x y u =>
    simp only [cK]
    cases h : cQ x <;> cases h2 : cQ y <;> try rfl
    simp only [kA, opA, aop, cQ_ok (e := e) h, cQ_ok (e := e) h2, Option.bind, same_map]
  | unOp o t x =>
    simp only [cK]
    cases h : cQ x with
    | none => rfl
    | some q => simp only [kA, opA, aop, cQ_ok (e := e) h, Option.bind, same_map]
  | fieldAddr t x i =>
    simp only [cK]
    cases h : cQ x <;> cases h2 : fieldT P t i <;> try rfl
    rename_i q f
    simp only
    cases h3 : sizeA P f.type with
    | none => rfl
    | some s =>
      simp only
      by_cases h0 : s = 0
      · simp only [h0, if_true]
      · simp only [h0, if_false]
        obtain ⟨fs, hu, hf⟩ := fieldT_ok h2
        simp only [kA, opA, aop, cQ_ok (e := e) h, Option.bind, same_map, fieldAddrA, hu, hf, h3, h0, if_false]
        cases q.ev e <;> rfl
  | field t x i =>
    simp only [cK]
    cases h : cQ x <;> cases h2 : fieldT P t i <;> try rfl
    rename_i q f
    simp only
    cases h3 : aggT P f.type with
    | none => rfl
    | some n =>
      obtain ⟨fs, hu, hf⟩ := fieldT_ok h2
      simp only [kA, opA, aop, cQ_ok (e := e) h, Option.bind, same_map]
      cases hq : q.ev e <;> simp only [fieldA, hu, hf, aggT_part h3, fldA]
  | indexAddr t x i =>
    simp only [cK]
    cases h : cQ x <;> cases h2 : cQ i <;> cases h3 : sliceT P t <;> try rfl
    simp only [kA, opA, aop, cQ_ok (e := e) h, cQ_ok (e := e) h2, Option.bind, same_map, sliceT_ok h3]
  | index t x i =>
    simp only [cK]
    cases h : cQ x <;> cases h2 : cQ i <;> cases h3 : strT P t <;> try rfl
    simp only [kA, opA, aop, cQ_ok (e := e) h, cQ_ok (e := e) h2, Option.bind, same_map, strT_ok h3]
  | extract x i =>
    simp only [cK]
    cases h : cQ x with
    | none => rfl
    | some q =>
      simp only [kA, opA, aop, cQ_ok (e := e) h]
      cases q.ev e <;> try rfl
      simp only [extA, same_map]
  | convert a b x =>
    simp only [cK]
    cases h : cQ x <;> cases h2 : cvtT P a b <;> try rfl
    simp only [kA, opA, aop, cQ_ok (e := e) h, Option.bind, cvtT_ok h2]
  | makeFunc f first cap =>
    cases f with
    | func f =>
      simp only [cK]
      cases h : cQL first.toList <;> cases h2 : cQL cap.toList <;> try rfl
      simp only [kA, opA, aop, cQL_ok (e := e) h, cQL_ok (e := e) h2, Option.bind]
    | _ => rfl
  | build t parts =>
    simp only [cK]
    cases h : cQP parts.toList <;> cases h2 : bldT P t <;> try rfl
    rename_i ps r
    obtain ⟨z, pl⟩ := r
    simp only [kA, opA, aop, cQP_ok (e := e) h, Option.bind, same_map, bldT_ok h2]
  | buildSlice t len parts =>
    simp only [cK]
    cases h : cQP parts.toList <;> cases h2 : bslT P t len <;> try rfl
    rename_i ps r
    obtain ⟨e', s, z⟩ := r
    simp only [kA, opA, aop, cQP_ok (e := e) h, Option.bind, bslT_ok h2]
  | call c =>
    obtain ⟨callee, args, ts⟩ := c
    cases callee with
    | value f =>
      cases f with
      | func f =>
        simp only [cK]
        cases h : cQL args.toList with
        | none => rfl
        | some l => simp only [kA, opA, evalO, cQL_ok (e := e) h, Option.bind, evalL_args]
      | tmp t =>
        simp only [cK]
        cases h2 : cQL args.toList with
        | none => rfl
        | some l => simp only [kA, cQ, opA, evalO, cQL_ok (e := e) h2, Option.bind]; rfl
      | const v =>
        simp only [cK]
        cases h1 : cQ (.const v) <;> cases h2 : cQL args.toList <;> try rfl
        simp only [kA, opA, cQ_ok (e := e) h1, cQL_ok (e := e) h2, Option.bind]
      | global g => rfl
    | builtin b =>
      cases b with
      | len =>
        simp only [cK]
        cases ha : args.toList with
        | nil => rfl
        | cons x l =>
          cases l with
          | cons y l => rfl
          | nil =>
            simp only
            cases h1 : cQ x <;> cases h2 : lenT P ts[0]? <;> try rfl
            rename_i q b
            cases b with
            | true =>
              simp only [kA, opA, aop, ha, evalL, cQ_ok (e := e) h1, Option.bind, lenT_ok h2, same_map, if_true]
            | false =>
              simp only [kA, opA, aop, ha, evalL, cQ_ok (e := e) h1, Option.bind, lenT_ok h2, same_map, Bool.false_eq_true, if_false]
      | _ => rfl
    | invoke r m => rfl
  | _ => rfl
theorem opA_k {o : Oper} : opA P ex lo e H o = kA P ex lo e H (cK P o.op) := by rw [opA_raw, cK_ok]
end
end Go.Ab
