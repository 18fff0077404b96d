/- The abstract interpreter is sound, 17: regions whose order is open, whole. Conditions: none. -/
import Derived.Test.YtlbkcdfllglddaaAb19
set_option linter.unusedSimpArgs false
set_option linter.unusedVariables false
namespace Go.Ab
open Go Go.RowKit
section
variable {P : Program} {w0 : World} {base lo : Nat} {ι ι0 ι1 ι2 : Inj} {H H1 H2 : Heap} {w w00 w1 w2 : World} {ex : ExF}
variable {ops : Array Oper} {bef : Array Nat} {m : Nat} {e : Nat → List AV} {h : Nat → Heap} {kp : Nat → List (Nat × Nat × Nat)} {val : Nat → AV} {marks : List Nat} {D : Nat → Bool} {a : Act}

theorem Trace.lt [E : Env] (T : Trace P ex ops bef m e h kp val) (h0 : ∀ b x, (h 0).get b = some x → b < (h 0).next) : ∀ j, j ≤ m → ∀ b x, (h j).get b = some x → b < (h j).next
  | 0, _ => h0
  | j + 1, hj => by
    intro b x hx
    have ih := Trace.lt T h0 j (by omega)
    obtain ⟨o, ho, hq, _⟩ := T.step j (by omega)
    rcases hq with ⟨_, _, h1, h2⟩ | ⟨_, hf, hop, _, _, h2⟩ | ⟨_, K, hop, _, ⟨h1, h2, _⟩ | ⟨_, h1, h2⟩⟩
    · rw [h1] at hx ⊢; exact ih b x hx
    · rcases heapFree_indep hf hop (h j) rfl with ⟨h1, _⟩ | ⟨y, h1, _⟩
      · rw [h1] at hx ⊢; exact ih b x hx
      · rw [h1] at hx ⊢
        rw [Heap.get_push] at hx
        split at hx
        · rename_i hb; simp; omega
        · have := ih b x hx; simp; omega
    · rw [h1] at hx ⊢; exact ih b x hx
    · rw [h1] at hx ⊢
      rw [growH_get] at hx
      split at hx
      · rename_i hb; simp only [growH]; omega
      · have := ih b x hx; simp only [growH]; omega

/-- what operation i reads is as the interpreter has it -/
theorem Inv.needs [E : Env] (T : Trace P ex ops bef m e h kp val) (hr : raceFree ops bef = true) (hbits : ∀ i j, (bef.getD i 0).testBit j = true → j < i) (hOKe : ∀ v ∈ e 0, v.OK w0 base (h 0).next)
    (I : Inv P w0 base ι0 w00 marks ops bef m e h val kp D ι w a) {i : Nat} (hi : i < m) (hDi : D i = false) (hpre : ∀ j, (bef.getD i 0).testBit j = true → D j = true) {o : Oper} (ho : ops[i]? = some o) :
    ∀ t ∈ needs ops o, a.tmps[t]? = ((e i)[t]?).map (AV.conc ι) ∧ ∀ v, (e i)[t]? = some v → v.OK w0 base (h i).next := by
  intro t ht
  have W : ∀ j, j < m → j ≠ i → dstOf ops j = some t → (bef.getD i 0).testBit j = true ∨ (bef.getD j 0).testBit i = true := by
    intro j hj hne hd
    obtain ⟨oj, hoj, _⟩ := T.step j hj
    have hdoj : oj.dst = some t := by simpa [dstOf, hoj] using hd
    cases hb1 : (bef.getD i 0).testBit j with
    | true => exact .inl rfl
    | false =>
      cases hb2 : (bef.getD j 0).testBit i with
      | true => exact .inr rfl
      | false => exact absurd ht (raceFree_spec hr hoj ho hne hb2 hb1 t hdoj).1
  have v1 : valT ops (e 0) val D m t = valT ops (e 0) val D i t := valT_le D (e 0) t i m (by omega) (fun j h1 h2 hj hd => by
    have hji : j ≠ i := fun q => by rw [q, hDi] at hj; cases hj
    rcases W j h2 hji hd with hb | hb
    · have := hbits i j hb; omega
    · rw [I.dc j hj i hb] at hDi; cases hDi)
  have v2 : valT ops (e 0) val D i t = valT ops (e 0) val (fun _ => true) i t := valT_same (e 0) t _ _ i (fun j hj hd => by
    rcases W j (by omega) (by omega) hd with hb | hb
    · exact hpre j hb
    · have := hbits j i hb; omega)
  have he := (T.env i (by omega)).2 t
  refine ⟨by rw [I.tm t, v1, v2, he], fun v hv => ?_⟩
  rw [he, ← v2] at hv
  rcases valT_cases (e 0) D t i v hv with hm | ⟨j, h1, h2, rfl⟩
  · exact OK.mono (T.mono 0 i (by omega) (by omega)).1 v (hOKe v hm)
  · exact OK.mono (T.mono (j + 1) i (by omega) (by omega)).1 _ (I.vok j h2)

theorem Inv.step [E : Env] (hN : Names P) (hS : Sound P w0 base ex) (hb : base ≤ w0.heap.size) (gl : GlobOK w0 base) (T : Trace P ex ops bef m e h kp val) (hr : raceFree ops bef = true) (hbits : ∀ i j, (bef.getD i 0).testBit j = true → j < i) (hOKe : ∀ v ∈ e 0, v.OK w0 base (h 0).next)
    (hOK0 : ∀ b x, (h 0).get b = some x → BlkOK w0 base (h 0).next x ∧ b < (h 0).next)
    (I : Inv P w0 base ι0 w00 marks ops bef m e h val kp D ι w a) (hmk : ∀ b ∈ marks, b < (h 0).next) {i : Nat} (hi : i < m) (hDi : D i = false) (hpre : ∀ j, (bef.getD i 0).testBit j = true → D j = true) (c : RC) (rest : List Nat) (k : List Item) (cs : List Frame) :
    ∃ ι' w' a', Inv P w0 base ι0 w00 marks ops bef m e h val kp (fun j => if j = i then true else D j) ι' w' a' ∧ Steps P (lone (F c a (.inRegion ops (i :: rest) :: k)) cs w) (lone (F c a' (.inRegion ops rest :: k)) cs w') := by
  obtain ⟨o, ho, hq, he⟩ := T.step i hi
  have hneeds := I.needs T hr hbits hOKe hi hDi hpre ho
  have hdst : dstOf ops i = o.dst := by simp [dstOf, ho]
  have hev : ∀ x ∈ o.op.operands, Ev w0 base (h i).next ι (e i) a.eval x := by
    intro x hx v hv
    cases x with
    | tmp t =>
      obtain ⟨h1, h2⟩ := hneeds t (List.mem_append.2 (.inl (List.mem_filterMap.2 ⟨.tmp t, by simpa using hx, rfl⟩)))
      simp only [evalO, Option.some.injEq] at hv
      subst hv
      simp only [Act.eval]
      cases ht : (e i)[t]? with
      | none => rw [ht] at h1; simp at h1; simp [List.getD, ht, h1, undef_conc, undefA, AV.OK, AV.OKL]; simp [AV.conc, AV.concL, undef]
      | some u => rw [ht] at h1; simp [List.getD, ht, h1]; exact h2 u ht
    | const v' => exact ⟨(ofVal_conc ι hv).symm, OK.mono (Nat.zero_le _) v (ofVal_OK hv)⟩
    | global g =>
      obtain ⟨h1, h2⟩ := gl g v hv
      exact ⟨(h2 ι).symm, OK.mono (Nat.zero_le _) v h1⟩
    | func f => simp only [evalO, Option.some.injEq] at hv; subst hv; simp [Act.eval, AV.conc, AV.concL, AV.OK, AV.OKL]
  have hwant : Region.wanted o (yielded ops a.tmps) = Region.wanted o (yieldedA ops (e i)) := by
    unfold Region.wanted
    cases hg : o.guard with
    | none => rfl
    | some g =>
      obtain ⟨j0, want⟩ := g
      simp only
      have : yielded ops a.tmps j0 = yieldedA ops (e i) j0 := by
        unfold yielded yieldedA
        cases hd : (ops[j0]?).bind (·.dst) with
        | none => rfl
        | some t =>
          obtain ⟨h1, _⟩ := hneeds t (List.mem_append.2 (.inr (by rw [hg]; simp [hd])))
          simp only [Option.bind_some, h1]
          cases ht : (e i)[t]? with
          | none => rfl
          | some v =>
            simp only [Option.map_some]
            cases v <;> try rfl
            rename_i b; cases b <;> rfl
      rw [this]
  have hm1 : ∀ b, b < (h (i + 1)).next → (h m).get b = (h (i + 1)).get b := (T.mono (i + 1) m (by omega) (Nat.le_refl _)).2
  have fin : ∀ (ι1 : Inj) (w1 : World), Did P w0 base m h bef kp val i ι w ι1 w1 → Steps P (lone (F c a (.inRegion ops (i :: rest) :: k)) cs w) (lone (F c (a.put o.dst ((val i).conc ι1)) (.inRegion ops rest :: k)) cs w1) →
      ∃ ι' w' a', Inv P w0 base ι0 w00 marks ops bef m e h val kp (fun j => if j = i then true else D j) ι' w' a' ∧ Steps P (lone (F c a (.inRegion ops (i :: rest) :: k)) cs w) (lone (F c a' (.inRegion ops rest :: k)) cs w') := by
    intro ι1 w1 d hst
    obtain ⟨ι', hI⟩ := I.next T hr hbits hOKe (fun b x hx => (hOK0 b x hx).1) hmk hi hDi hpre d
    rw [hdst] at hI
    exact ⟨ι', w1, _, hI, hst⟩
  -- an operation that is carried out on some heap of what is there
  have exec : ∀ (V V' : Heap), V.next = (h i).next → (∀ b x, V.get b = some x → Live h m D b x ∧ b < (h i).next ∧ BlkOK w0 base (h i).next x) → opA P ex (h i).next (e i) V o = some (val i, V') → Region.wanted o (yieldedA ops (e i)) = true →
      (val i).all (visA (bef.getD i 0) (kp i)) = true →
      ((h (i + 1)).next = V'.next ∨ (V.next ≤ V'.next → (h (i + 1)).next = V'.next) ∨ ((h (i + 1)).next = (h i).next ∧ ((val i).rf = true ∨ V' = V))) →
      (∀ b x, (h i).next ≤ b → b < (h (i + 1)).next → (h (i + 1)).get b = some x → V'.get b = some x ∧ x.all (visA (bef.getD i 0) (kp i)) = true) →
      ∃ ι' w' a', Inv P w0 base ι0 w00 marks ops bef m e h val kp (fun j => if j = i then true else D j) ι' w' a' ∧ Steps P (lone (F c a (.inRegion ops (i :: rest) :: k)) cs w) (lone (F c a' (.inRegion ops rest :: k)) cs w') := by
    intro V V' hVn hV hop hw hvis hnx hnew
    have sV : Sim P w0 base ι V w :=
      { below := I.below, hb := hb, gl := gl, inj := fun b b' x x' hx hx' => I.inj b b' x x' (hV b x hx).1 (hV b' x' hx').1, lt := fun b x hx => by rw [hVn]; exact (hV b x hx).2.1,
        lo := fun b x hx => I.lo b x (hV b x hx).1, ok := fun b x hx => by rw [hVn]; exact (hV b x hx).2.2, rel := fun b x hx => I.rel b x (hV b x hx).1 }
    obtain ⟨ι1, w1, hp, hv, hst⟩ := opA_sound hN hS sV hop (by omega) c a (fun x hx => by rw [hVn]; exact hev x hx) ho (by rw [hwant]; exact hw) rest k cs
    have hnx' : (h (i + 1)).next = V'.next ∨ ((h (i + 1)).next = (h i).next ∧ ((val i).rf = true ∨ V' = V)) := by
      rcases hnx with h1 | h1 | h1
      · exact .inl h1
      · exact .inl (h1 hp.next)
      · exact .inr h1
    have hvok : (val i).OK w0 base (h (i + 1)).next := by
      rcases hnx' with h1 | ⟨h1, h2 | h2⟩
      · rw [h1]; exact hv
      · exact OK.mono (Nat.zero_le _) _ (OK.rf _ h2 hv)
      · rw [h1, ← hVn, ← h2]; exact hv
    have hfrm : ∀ r, r < w.heap.size → w1.heap[r]? = w.heap[r]? := fun r hr' => hp.frame r hr' fun b x hx hl => by have := (hV b x hx).2.1; omega
    have hnewF : ∀ b x, (h i).next ≤ b → b < (h (i + 1)).next → (h m).get b = some x → V'.get b = some x ∧ x.all (visA (bef.getD i 0) (kp i)) = true ∧ w.heap.size ≤ (ι1 b).1 := by
      intro b x h1 h2 h3
      rw [hm1 b h2] at h3
      obtain ⟨h4, h5⟩ := hnew b x h1 h2 h3
      refine ⟨h4, h5, ?_⟩
      rcases hp.newr b x h4 (by omega) with h6 | ⟨b0, x0, h7, h8, _⟩
      · exact h6
      · have := (hV b0 x0 h7).2.1; omega
    refine fin ι1 w1 ⟨hvok, hvis, fun b hb' => hp.ext b (by omega), hp.sim.below, hp.size, hfrm, fun b x h1 h2 h3 => ?_, fun b b' x x' h1 h2 h3 h1' h2' h3' heq => ?_⟩ hst
    · obtain ⟨h4, h5, h6⟩ := hnewF b x h1 h2 h3
      refine ⟨h6, hp.sim.lo b x h4, ?_, h5, hp.sim.rel b x h4⟩
      rcases hnx' with h7 | ⟨h7, _⟩
      · rw [h7]; exact hp.sim.ok b x h4
      · omega
    · exact hp.sim.inj b b' x x' (hnewF b x h1 h2 h3).1 (hnewF b' x' h1' h2' h3').1 heq
  rcases hq with ⟨hw, hv, h1, h2⟩ | ⟨hw, hf, hop, hvis, hnk, h2⟩ | ⟨hw, K, hop, hvis, hcase⟩
  · -- not wanted
    have hsk := st_opSkip (P := P) (c := c) (a := a) (k := k) (cs := cs) (w := w) (ops := ops) (i := i) (rest := rest) (by rw [ho]; simp [hwant, hw])
    rw [ho] at hsk
    simp only [Option.bind_some] at hsk
    have hnx : (h (i + 1)).next = (h i).next := by rw [h1]
    refine fin ι w ⟨?_, ?_, fun _ _ => rfl, I.below, Nat.le_refl _, fun _ _ => rfl, fun b x q1 q2 _ => by omega, fun b b' x x' q1 q2 => by omega⟩ ?_
    · rw [hv]; simp [undefA, AV.OK, AV.OKL]
    · rw [hv]; simp [undefA, AV.all, AV.allL]
    · rw [hv, undef_conc]; exact .one hsk
  · -- free of the heap
    rcases heapFree_indep hf hop ⟨(h i).next, .leaf⟩ rfl with ⟨h3, h4⟩ | ⟨x, h3, h4⟩
    · refine exec ⟨(h i).next, .leaf⟩ _ rfl (fun b x hx => by have hn : (⟨(h i).next, .leaf⟩ : Heap).get b = none := rfl; rw [hn] at hx; cases hx) h4 hw hvis (.inl (by rw [h3])) (fun b x q1 q2 _ => by rw [h3] at q2; omega)
    · refine exec ⟨(h i).next, .leaf⟩ _ rfl (fun b x hx => by have hn : (⟨(h i).next, .leaf⟩ : Heap).get b = none := rfl; rw [hn] at hx; cases hx) h4 hw hvis (.inl (by rw [h3]; rfl)) (fun b y q1 q2 q3 => ?_)
      rw [h3] at q2 q3
      simp only [Heap.next_push] at q2
      have hbe : b = (h i).next := by omega
      rw [Heap.get_push, if_pos hbe] at q3
      refine ⟨by rw [Heap.get_push, if_pos hbe]; exact q3, ?_⟩
      have := List.all_eq_true.1 hnk 0 (List.mem_range.2 (by rw [h3]; simp))
      rw [h3, Nat.add_zero, Heap.get_push, if_pos rfl] at this
      cases q3
      exact this
  · -- on the view
    have hVn := viewA_next (bef.getD i 0) (kp i) (h i)
    obtain ⟨hk1, hk2⟩ := T.kept i (by omega)
    have hV : ∀ b x, (viewA (h i) (bef.getD i 0) (kp i)).get b = some x → Live h m D b x ∧ b < (h i).next ∧ BlkOK w0 base (h i).next x := by
      intro b x hx
      obtain ⟨h3, h4⟩ := viewA_get _ _ _ b x hx
      by_cases hb0 : b < (h 0).next
      · have h5 : (h 0).get b = some x := by rw [← (T.mono 0 i (by omega) (by omega)).2 b hb0]; exact h3
        have := (T.mono 0 i (by omega) (by omega)).1
        exact ⟨.inl ⟨hb0, h5⟩, by omega, (hOK0 b x h5).1.mono this⟩
      · -- whose is it?
        have hown : ∀ q, q ≤ i → (h 0).next ≤ b → (h q).get b = some x → ∃ j, j < q ∧ (h j).next ≤ b ∧ b < (h (j + 1)).next := by
          intro q
          induction q with
          | zero => intro _ h6 h7; have := (hOK0 b x h7).2; omega
          | succ q ih =>
            intro hq h6 h7
            by_cases h8 : b < (h q).next
            · rw [(T.one (j := q) (by omega)).2.1 b h8] at h7
              obtain ⟨j, h9, h10⟩ := ih (by omega) h6 h7
              exact ⟨j, by omega, h10⟩
            · refine ⟨q, by omega, by omega, ?_⟩
              exact T.lt (fun b x hx => (hOK0 b x hx).2) (q + 1) (by omega) b x h7
        obtain ⟨j, h6, h7, h8⟩ := hown i (Nat.le_refl _) (by omega) h3
        obtain ⟨q, hq, hqj⟩ := hk2 j h6 (by omega)
        obtain ⟨_, h9, h10⟩ := hk1 q hq
        rw [hqj] at h9 h10
        have hDj : D j = true := by
          cases hbit : (bef.getD i 0).testBit j with
          | true => exact hpre j hbit
          | false => exact absurd ⟨by omega, by omega⟩ (h4 q hq (by rw [hqj]; exact hbit))
        have hmi := (T.mono i m (by omega) (Nat.le_refl _)).2 b (by have := (T.mono (j + 1) i (by omega) (by omega)).1; omega)
        have hbl : b < (h i).next := by have := (T.mono (j + 1) i (by omega) (by omega)).1; omega
        refine ⟨.inr ⟨j, by omega, hDj, h7, h8, by rw [hmi]; exact h3⟩, hbl, ?_⟩
        exact (I.bok j b x hDj h7 h8 (by rw [hmi]; exact h3)).1.mono (T.mono (j + 1) i (by omega) (by omega)).1
    rcases hcase with ⟨h1, h2, h3⟩ | ⟨hnk, h1, h2⟩
    · refine exec _ K hVn hV hop hw hvis (.inr (.inr ⟨by rw [h1], ?_⟩)) (fun b x q1 q2 _ => by rw [h1] at q2; omega)
      rcases h3 with h3 | h3
      · exact .inr (onlyReads_heap h3 hop)
      · exact .inl h3
    · refine exec _ K hVn hV hop hw hvis (.inr (.inl (fun hle => by rw [h1]; simp only [growH]; omega))) (fun b x q1 q2 q3 => ?_)
      rw [h1] at q2 q3
      simp only [growH] at q2
      rw [growH_get, if_pos ⟨q1, q2⟩] at q3
      refine ⟨q3, ?_⟩
      have := List.all_eq_true.1 hnk (b - (h i).next) (List.mem_range.2 (by omega))
      rw [show (h i).next + (b - (h i).next) = b by omega, q3] at this
      exact this
end
end Go.Ab
