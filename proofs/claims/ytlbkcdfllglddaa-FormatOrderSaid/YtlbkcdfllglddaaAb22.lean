/- The abstract interpreter is sound, 19: code of every form; the interpreter at every depth; what it says of a call. Conditions: none. -/
import Derived.Test.YtlbkcdfllglddaaAb21
set_option linter.unusedSimpArgs false
set_option linter.unusedVariables false
namespace Go.Ab
open Go Go.RowKit
section
variable {P : Program} {w0 : World} {base lo : Nat} {ι ι0 ι1 ι2 : Inj} {H H1 H2 : Heap} {w w00 w1 w2 : World} {ex : ExF}

theorem F_finishRange (c : RC) (a : Act) (l : Nat) (k : List Item) (v : Value) : (F c a (.inRangeFunc l :: k)).finish v = F c a (.endRangeFunc l :: k) := rfl
/-- a loop over a function -/
theorem rangeFunc_sound [E : Env] (hN : Names P) (hS : Sound P w0 base ex) {cx : Ctx} {st st' : St} {e : Ex} {f : Operand} {params : Array Tmp} {assign body : Code} (h : stepX P ex cx lo (.rangeFunc f params assign body) st = some (e, st'))
    (s : Sim P w0 base ι st.H w) {a : Act} (hA : ARel w0 base lo ι st.H.next st.env st.marks a) {c : RC} (hC : CRel ι st.H.next cx c) (hlo : lo ≤ st.H.next) (k : List Item) (cs : List Frame) :
    ∃ ι' w' a', Post P w0 base lo ι st.H w ι' st'.H w' ∧ ARel w0 base lo ι' st'.H.next st'.env st'.marks a' ∧ Reach P (lone (F c a (.code (.rangeFunc f params assign body) :: k)) cs w) c k cs e a' w' := by
  simp only [stepX] at h
  cases hfv : evalO st.env f with
  | none => simp [hfv] at h
  | some fv =>
  simp only [hfv] at h
  obtain ⟨ef, efOK⟩ := hA.ev s.gl f fv hfv
  -- where the calls that are deferred in its rounds lie
  have start : ∃ d marks H ι1 w1 mark, loopStart cx.rnd st.marks st.H = some (d, marks, H) ∧
      Post P w0 base lo ι st.H w ι1 H w1 ∧ d < H.next ∧ ARel w0 base lo ι1 H.next st.env marks ⟨a.tmps, mark ++ a.defers⟩ ∧
      (do let (defers, mark) ← (match c.rnd with
            | some l => do pure ((← Instr.getLoop l).defers, [])
            | none => do
              let r ← newObj (.deferred (some []))
              pure (r, [{ target := .collected r, args := #[] }]) : Sem (Nat × List Deferred))
          pure (defers, mark) : Sem (Nat × List Deferred)).run P w = .ok ((ι1 d).1, mark) w1 := by
    rcases hC.rnd with ⟨h1, h2⟩ | ⟨l, h1, h2, h3⟩
    · have hp := Post.alloc (lo := lo) s .dfr (.deferred (some [])) 0 trivial rfl hlo
      refine ⟨st.H.next, st.H.next :: st.marks, st.H.push .dfr, _, _, [markOf (ι.put st.H.next w.heap.size 0) st.H.next], by rw [h1]; rfl, hp, by simp, ?_, ?_⟩
      · have hA' := hA.ext hp.ext hp.next
        refine ⟨hA'.tmps, hA'.ok, ?_, fun b hb => ?_⟩
        · simp only [List.map_cons, List.singleton_append]
          congr 1
          exact hA'.defers
        · rcases List.mem_cons.1 hb with rfl | hb
          · exact ⟨hlo, by simp⟩
          · exact hA'.marks b hb
      · rw [h2]
        simp [newObj, Sem.run, markOf]
    · cases hq : loopStart cx.rnd st.marks st.H with
      | none => simp [hq] at h
      | some q =>
        rw [h1] at hq
        simp only [loopStart] at hq
        split at hq
        · rename_i st1 pend fn tmps params1 assign1 body1 d1 hl
          cases hq
          refine ⟨d1, st.marks, st.H, ι, w, [], by first | rfl | (rw [h1]; simp [loopStart, hl]), Post.refl s, (s.ok l _ hl).2, by simpa using hA, ?_⟩
          rw [h3]
          simp [(run_getLoop s hl).1]
        · cases hq
  obtain ⟨d, marks, H, ι1, w1, mark, hsel, hp1, hdlt, hA1, hrun1⟩ := start
  rw [hsel] at h
  simp only at h
  -- the loop's record
  have hp2 := Post.alloc (lo := lo) hp1.sim (.loop .ready none cx.fn st.env params.toList assign body d)
    (.loop { state := .ready, pending := none, fn := c.fn, tmps := a.tmps, params, assign, body, defers := (ι1 d).1 }) 0 ⟨hA1.ok, hdlt⟩
    (by have := hA1.tmps; simp only at this; simp [BlkRel, hC.fn, this]) (Nat.le_trans hlo hp1.next)
  have hl : ((ι1.put H.next w1.heap.size 0) H.next).1 = w1.heap.size := by rw [Inj.put_same]
  have henter : (Instr.enterLoop c.fn a.tmps params assign body c.rnd).run P w = .ok (w1.heap.size, mark) (w1.alloc (.loop { state := .ready, pending := none, fn := c.fn, tmps := a.tmps, params, assign, body, defers := (ι1 d).1 })) := by
    have hr := hrun1
    unfold Instr.enterLoop
    cases hcr : c.rnd with
    | none =>
      rw [hcr] at hr
      simp only [Sem.run_bind, Sem.run_pure] at hr ⊢
      cases hx : (newObj (.deferred (some []))).run P w with
      | ok r w' =>
        rw [hx] at hr
        simp only [Result.andThen_ok, Result.ok.injEq, Prod.mk.injEq] at hr
        obtain ⟨⟨h1, h2⟩, h3⟩ := hr
        subst h1; subst h3
        simp only [Result.andThen_ok]
        simp [newObj, Sem.run, h2]
      | halt q w' => rw [hx] at hr; simp at hr
    | some l =>
      rw [hcr] at hr
      simp only [Sem.run_bind, Sem.run_pure] at hr ⊢
      cases hx : (Instr.getLoop l).run P w with
      | ok r w' =>
        rw [hx] at hr
        simp only [Result.andThen_ok, Result.ok.injEq, Prod.mk.injEq] at hr
        obtain ⟨⟨h1, h2⟩, h3⟩ := hr
        subst h2; subst h3
        simp only [Result.andThen_ok]
        simp [newObj, Sem.run, h1]
      | halt q w' => rw [hx] at hr; simp at hr
  clear hrun1 hsel
  generalize hW2 : (w1.alloc (.loop { state := .ready, pending := none, fn := c.fn, tmps := a.tmps, params, assign, body, defers := (ι1 d).1 })) = W2 at hp2 henter
  generalize hι2 : ι1.put H.next w1.heap.size 0 = ι2 at hp2 hl
  clear hW2 hι2
  split at h
  · rename_i r H' hcall
    cases fv <;> simp only at hcall <;> try (cases hcall; done)
    rename_i g first cap
    have efOK1 := OK.mono (Nat.le_trans hp1.next (Nat.le_succ _)) _ efOK
    simp only [AV.OK] at efOK1
    obtain ⟨fn, fbody, hf, hb⟩ := callA_body hcall
    have hext2 : ∀ b, b < st.H.next → ι2 b = ι b := fun b hb => (hp1.trans hp2).ext b hb
    have ef2 : a.eval f = (AV.func g first cap).conc ι2 := by rw [ef]; exact (conc_ext hext2 _ efOK).symm
    have h2 : (do let d ← resolve a.eval { callee := .value f, args := #[.const (.func (.yield w1.heap.size) #[] #[])], argTypes := #[] } 0; invoke d.target d.args : Sem Next).run P
        W2 = .ok (.enter g ((first ++ [AV.yieldf H.next] ++ cap).map (AV.conc ι2)).toArray) W2 := by
      simp only [resolve, ef2, AV.conc, Deferred.ofValue, pure_bind, invoke, concL_eq]
      rw [run_callFunc hN hf hb]
      congr 2
      apply Array.ext'
      simp [Act.eval, AV.conc, hl]
    obtain ⟨ι3, w3, fr, hp3, hv3, hst3, hleave, _⟩ := callA_sound hN.summ hS hp2.sim hcall (fun x hx => by
      rcases List.mem_append.1 hx with hx | hx
      · rcases List.mem_append.1 hx with hx | hx
        · exact (OKL_iff ..).1 efOK1.1 x hx
        · rw [List.mem_singleton.1 hx]; simp [AV.OK]
      · exact (OKL_iff ..).1 efOK1.2 x hx) (Nat.le_trans hlo (Nat.le_trans hp1.next (Nat.le_succ _))) (F c ⟨a.tmps, mark ++ a.defers⟩ (.inRangeFunc w1.heap.size :: k) :: cs)
    have hl3 : (ι3 H.next).1 = w1.heap.size := by rw [hp3.ext H.next (by simp)]; exact hl
    split at h
    · rename_i st1 pend fn1 tmps1 params1 assign1 body1 d1 hloop
      split at h
      · cases h
      · rename_i hbusy
        obtain ⟨hg1, hg2⟩ := run_getLoop hp3.sim hloop
        have hp4 := Post.drop (lo := lo) hp3.sim hloop { w3 with heap := w3.heap.setIfInBounds (ι3 H.next).1 (.loop { state := .exhausted, pending := pend, fn := fn1, tmps := (tmps1.map (AV.conc ι3)).toArray, params := params1.toArray, assign := assign1, body := body1, defers := (ι3 d1).1 }) }
          (Nat.le_trans hlo hp1.next) ⟨rfl, rfl, rfl, by simp⟩ (fun r hr => Array.getElem?_setIfInBounds_ne (fun q => hr q.symm))
        have hend : (Instr.endLoop w1.heap.size).run P w3 = .ok pend { w3 with heap := w3.heap.setIfInBounds (ι3 H.next).1 (.loop { state := .exhausted, pending := pend, fn := fn1, tmps := (tmps1.map (AV.conc ι3)).toArray, params := params1.toArray, assign := assign1, body := body1, defers := (ι3 d1).1 }) } := by
          rw [← hl3]
          have hb' : (st1 == LoopState.busy) = false := by cases st1 <;> first | rfl | exact absurd rfl hbusy
          simp only [Instr.endLoop, Sem.run_bind, hg1, Result.andThen_ok, hb', Bool.false_eq_true, if_false, Sem.run_pure]
          rw [run_setObj _ _ _ hg2 (by simp)]
          rfl
        generalize hWf : ({ w3 with heap := w3.heap.setIfInBounds (ι3 H.next).1 (.loop { state := .exhausted, pending := pend, fn := fn1, tmps := (tmps1.map (AV.conc ι3)).toArray, params := params1.toArray, assign := assign1, body := body1, defers := (ι3 d1).1 }) } : World) = Wf at hp4 hend
        clear hWf
        have hsteps : Steps P (lone (F c a (.code (.rangeFunc f params assign body) :: k)) cs w) (lone (F c ⟨a.tmps, mark ++ a.defers⟩ ((pend.map Item.code).toList ++ k)) cs Wf) :=
          by
            have q1 := st_rangeCall (P := P) (k := k) (cs := cs) henter h2
            have q2 := st_leave (d := F c ⟨a.tmps, mark ++ a.defers⟩ (.inRangeFunc w1.heap.size :: k)) (ds := cs) hleave
            rw [F_finishRange] at q2
            have q3 := st_endLoop (P := P) (c := c) (a := ⟨a.tmps, mark ++ a.defers⟩) (k := k) (cs := cs) hend
            exact Steps.head q1 (hst3.trans (Steps.head q2 (.one q3)))
        have hp := ((hp1.trans hp2).trans hp3).trans hp4
        have hAf : ARel w0 base lo ι3 (H'.kill H.next).next st.env marks ⟨a.tmps, mark ++ a.defers⟩ := (hA1.ext hp2.ext hp2.next).ext hp3.ext hp3.next
        cases pend with
        | none =>
          simp only at h
          cases h
          exact ⟨ι3, _, _, hp, hAf, hsteps⟩
        | some j =>
          cases j <;> simp only at h <;> try (cases h; done)
          · cases h; exact ⟨ι3, _, _, hp, hAf, k, rfl, hsteps⟩
          · cases h; exact ⟨ι3, _, _, hp, hAf, k, hsteps⟩
    · cases h
  · cases h

theorem Reach.inLoop [E : Env] {x : Code} {c : RC} {a a' : Act} {k : List Item} {cs : List Frame} {e : Ex} {w' : World} (h : Reach P (lone (F c a (.code (.loop x) :: k)) cs w) c k cs e a' w') : Reach P (lone (F c a (.inLoop x :: k)) cs w) c k cs e a' w' := by
  have key : ∀ (a2 : Act) (k2 : List Item), k2 ≠ .code (.loop x) :: k → Steps P (lone (F c a (.code (.loop x) :: k)) cs w) (lone (F c a2 k2) cs w') → Steps P (lone (F c a (.inLoop x :: k)) cs w) (lone (F c a2 k2) cs w') := by
    intro a2 k2 hne hs
    obtain ⟨n, hn⟩ := hs
    cases n with
    | zero =>
      simp only [runN, Stepped.next.injEq] at hn
      have := congrArg (fun m : Machine => (m.gs[0]?).map (·.frame.todo)) hn
      simp [lone, F] at this
      exact absurd this.symm hne
    | succ n =>
      rw [runN, st_loop] at hn
      exact Steps.head st_inLoop ⟨n, hn⟩
  cases e with
  | normal => exact key a' k (fun q => by have := congrArg List.length q; simp at this) h
  | exit id => obtain ⟨k1, hk, hs⟩ := h; exact ⟨k1, hk, key a' _ (by simp) hs⟩
  | ret => obtain ⟨k1, hs⟩ := h; exact ⟨k1, key a' _ (by simp) hs⟩
  | panic v => exact h

theorem stepX_sound [E : Env] (hN : Names P) (hm : P.follows .mixedOrders = true) (hS : Sound P w0 base ex) : Sound P w0 base (stepX P ex) := by
  intro cx lo code st e st' h ι w a c s hA hC hlo k cs
  cases code with
  | skip => simp only [stepX] at h; cases h; exact ⟨ι, w, a, Post.refl s, hA, .one st_skip⟩
  | ret => simp only [stepX] at h; cases h; exact ⟨ι, w, a, Post.refl s, hA, k, Steps.refl P _⟩
  | exit id => simp only [stepX] at h; cases h; exact ⟨ι, w, a, Post.refl s, hA, k, rfl, Steps.refl P _⟩
  | region id ops draw =>
    simp only [stepX] at h
    cases draw with
    | true =>
      simp only [if_true] at h
      split at h
      · rename_i env H hd
        cases h
        obtain ⟨ι', w', a', h1, h2, h3⟩ := runDraw_sound hN hm hS s hd hA hlo c id k cs
        exact ⟨ι', w', a', h1, h2, h3⟩
      · cases h
    | false =>
      simp only [Bool.false_eq_true, if_false] at h
      split at h
      · rename_i env H hd
        cases h
        obtain ⟨ι', w', a', h1, h2, h3⟩ := runOps_sound hN hS ops st.marks c k cs ops.toList 0 st.env st.H env H ι w a (fun j => by simp) hd s hA hlo
        refine ⟨ι', w', a', h1, h2, ?_⟩
        refine Steps.head st_region ?_
        rw [List.range_eq_range', ← Array.length_toList]
        exact h3.trans (.one st_regionEnd)
      · cases h
  | seq x y =>
    simp only [stepX] at h
    split at h
    · rename_i st1 h1
      obtain ⟨ι1, w1, a1, p1, hA1, r1⟩ := hS _ _ _ _ _ _ h1 ι w a c s hA hC hlo (.code y :: k) cs
      obtain ⟨ι2, w2, a2, p2, hA2, r2⟩ := hS _ _ _ _ _ _ h ι1 w1 a1 c p1.sim hA1 (hC.ext p1.ext p1.next) (Nat.le_trans hlo p1.next) k cs
      exact ⟨ι2, w2, a2, p1.trans p2, hA2, r2.of_steps (Steps.head st_seq r1)⟩
    · rename_i hne
      obtain ⟨ι1, w1, a1, p1, hA1, r1⟩ := hS _ _ _ _ _ _ h ι w a c s hA hC hlo (.code y :: k) cs
      refine ⟨ι1, w1, a1, p1, hA1, ?_⟩
      cases e with
      | normal => exact absurd h (hne st')
      | exit id => obtain ⟨k1, hk, hs⟩ := r1; exact ⟨k1, hk, Steps.head st_seq hs⟩
      | ret => obtain ⟨k1, hs⟩ := r1; exact ⟨k1, Steps.head st_seq hs⟩
      | panic v => exact r1
  | cond o x y =>
    simp only [stepX] at h
    split at h
    · rename_i t ht
      obtain ⟨ι1, w1, a1, p1, hA1, r1⟩ := hS _ _ _ _ _ _ h ι w a c s hA hC hlo k cs
      have hev := (hA.ev s.gl o _ ht).1
      exact ⟨ι1, w1, a1, p1, hA1, r1.of_steps (.one (st_cond hev))⟩
    · cases h
  | block id x =>
    simp only [stepX] at h
    split at h
    · rename_i id' st1 h1
      cases h
      obtain ⟨ι1, w1, a1, p1, hA1, k1, hk, hs⟩ := hS _ _ _ _ _ _ h1 ι w a c s hA hC hlo (.inBlock id :: k) cs
      refine ⟨ι1, w1, a1, p1, hA1, ?_⟩
      by_cases e1 : id' = id
      · subst e1
        simp only [if_true]
        have : exitTo id' k1 = some k := by rw [hk]; simp [exitTo]
        exact Steps.head st_block (hs.trans (.one (st_exit this)))
      · simp only [e1, if_false]
        refine ⟨k1, ?_, Steps.head st_block hs⟩
        rw [hk]
        have : (id == id') = false := by simp; exact fun q => e1 q.symm
        simp [exitTo, this]
    · rename_i hne
      obtain ⟨ι1, w1, a1, p1, hA1, r1⟩ := hS _ _ _ _ _ _ h ι w a c s hA hC hlo (.inBlock id :: k) cs
      refine ⟨ι1, w1, a1, p1, hA1, ?_⟩
      cases e with
      | normal => exact Steps.head st_block (Steps.trans r1 (.one st_inBlock))
      | exit id' => exact absurd h (hne id' st')
      | ret => obtain ⟨k1, hs⟩ := r1; exact ⟨k1, Steps.head st_block hs⟩
      | panic v => exact r1
  | loop x =>
    simp only [stepX] at h
    split at h
    · rename_i st1 h1
      obtain ⟨ι1, w1, a1, p1, hA1, r1⟩ := hS _ _ _ _ _ _ h1 ι w a c s hA hC hlo (.inLoop x :: k) cs
      obtain ⟨ι2, w2, a2, p2, hA2, r2⟩ := hS _ _ _ _ _ _ h ι1 w1 a1 c p1.sim hA1 (hC.ext p1.ext p1.next) (Nat.le_trans hlo p1.next) k cs
      exact ⟨ι2, w2, a2, p1.trans p2, hA2, r2.inLoop.of_steps (Steps.head st_loop r1)⟩
    · rename_i hne
      obtain ⟨ι1, w1, a1, p1, hA1, r1⟩ := hS _ _ _ _ _ _ h ι w a c s hA hC hlo (.inLoop x :: k) cs
      refine ⟨ι1, w1, a1, p1, hA1, ?_⟩
      cases e with
      | normal => exact absurd h (hne st')
      | exit id => obtain ⟨k1, hk, hs⟩ := r1; exact ⟨k1, hk, Steps.head st_loop hs⟩
      | ret => obtain ⟨k1, hs⟩ := r1; exact ⟨k1, Steps.head st_loop hs⟩
      | panic v => exact r1
  | rangeFunc f params assign body => exact rangeFunc_sound hN hS h s hA hC hlo k cs
  | _ => simp [stepX] at h

theorem exec_sound [E : Env] (hN : Names P) (hm : P.follows .mixedOrders = true) : ∀ n, Sound P w0 base (exec P n)
  | 0 => by intro cx lo code st e st' h; rw [exec_zero] at h; cases h
  | n + 1 => by rw [exec_succ]; exact stepX_sound hN hm (exec_sound hN hm n)

/-- what the interpreter says of a call that begins with nothing of its own -/
theorem run_sound [E : Env] (hN : Names P) (hm : P.follows .mixedOrders = true) {n : Nat} {f : FuncId} {args : List AV} {v : AV} {H' : Heap} (h : callA P (exec P n) 0 f args Heap.empty = some (v, H')) (w : World) (gl : GlobOK w w.heap.size) (hargs : ∀ a ∈ args, a.OK w w.heap.size 0) (ι : Inj) :
    Calls P f (args.map (AV.conc ι)).toArray w fun e w' => (∃ ι', e = .returned (v.conc ι')) ∧ Below w.heap.size w w' := by
  intro cs
  have s : Sim P w w.heap.size ι Heap.empty w :=
    { below := Below.refl _ _, hb := Nat.le_refl _, gl := gl, inj := (fun b b' x x' hx => by rw [Heap.get_empty] at hx; cases hx), lt := (fun b x hx => by rw [Heap.get_empty] at hx; cases hx),
      lo := (fun b x hx => by rw [Heap.get_empty] at hx; cases hx), ok := (fun b x hx => by rw [Heap.get_empty] at hx; cases hx), rel := (fun b x hx => by rw [Heap.get_empty] at hx; cases hx) }
  obtain ⟨ι', w', fr, h1, h2, h3, h4, h5⟩ := callA_sound hN.summ (exec_sound hN hm n) s h hargs (Nat.zero_le _) cs
  exact ⟨.returned (v.conc ι'), w', fr, ⟨⟨ι', rfl⟩, h1.sim.below⟩, h3, h5, h4⟩
end
end Go.Ab
