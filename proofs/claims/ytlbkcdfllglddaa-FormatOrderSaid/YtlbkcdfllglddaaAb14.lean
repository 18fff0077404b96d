/- The abstract interpreter is sound, 11: rounds, operations with calls, regions in the text's order. Conditions: none. -/
import Derived.Test.YtlbkcdfllglddaaAb13
set_option linter.unusedSimpArgs false
set_option linter.unusedVariables false
namespace Go.Ab
open Go Go.RowKit

/-- no function is one that the model answers itself; the summaries are true -/
structure Names [E : Env] (P : Program) : Prop where
  names : ∀ (f : Nat) (fn : Func), P.funcs[f]? = some fn → (fn.name == "runtime.NumGoroutine") = false
  summ : SummOK P

section
variable {P : Program} {w0 : World} {base lo : Nat} {ι ι1 ι2 : Inj} {H H1 H2 : Heap} {w w1 w2 : World} {ex : ExF}

theorem setParams_sound : ∀ (ts : List Tmp) (vs env env' : List AV), setParams env ts vs = some env' →
    ts.length = vs.length ∧ ((ts.zip (vs.map (AV.conc ι))).foldl (fun (tm : Array Value) (p : Tmp × Value) => tm.setIfInBounds p.1 p.2) (env.map (AV.conc ι)).toArray) = (env'.map (AV.conc ι)).toArray ∧
      ∀ v ∈ env', v ∈ env ∨ v ∈ vs
  | [], [], env, env', h => by simp only [setParams] at h; cases h; exact ⟨rfl, rfl, fun v hv => .inl hv⟩
  | [], _ :: _, env, env', h => by simp [setParams] at h
  | _ :: _, [], env, env', h => by simp [setParams] at h
  | t :: ts, v :: vs, env, env', h => by
    simp only [setParams] at h
    obtain ⟨h1, h2, h3⟩ := setParams_sound ts vs (env.set t v) env' h
    refine ⟨by simp [h1], ?_, fun u hu => ?_⟩
    · simp only [List.map_cons, List.zip_cons_cons, List.foldl_cons]
      rw [← h2]
      congr 1
      simp [List.map_set]
    · rcases h3 u hu with hu | hu
      · rcases List.mem_or_eq_of_mem_set hu with hu | rfl
        · exact .inl hu
        · exact .inr (by simp)
      · exact .inr (by simp [hu])

theorem run_getLoop [E : Env] (s : Sim P w0 base ι H w) {l : Nat} {st : LoopState} {pend : Option Code} {fn : FuncId} {tmps : List AV} {params : List Tmp} {assign body : Code} {d : Nat} (h : H.get l = some (.loop st pend fn tmps params assign body d)) :
    (Instr.getLoop (ι l).1).run P w = .ok { state := st, pending := pend, fn, tmps := (tmps.map (AV.conc ι)).toArray, params := params.toArray, assign, body, defers := (ι d).1 } w ∧
      w.heap[(ι l).1]? = some (.loop { state := st, pending := pend, fn, tmps := (tmps.map (AV.conc ι)).toArray, params := params.toArray, assign, body, defers := (ι d).1 }) := by
  have hr := s.rel l _ h
  simp only [BlkRel] at hr
  exact ⟨by simp [Instr.getLoop, getObj, Sem.run, hr], hr⟩
/-- a loop's record turns -/
theorem Post.loop [E : Env] (s : Sim P w0 base ι H w) {l : Nat} {st : LoopState} {pend : Option Code} {fn : FuncId} {tmps : List AV} {params : List Tmp} {assign body : Code} {d : Nat} (h : H.get l = some (.loop st pend fn tmps params assign body d)) (st' : LoopState) (pend' : Option Code) (hlo : lo ≤ l) :
    ∃ w1, (setObj (ι l).1 (.loop { state := st', pending := pend', fn, tmps := (tmps.map (AV.conc ι)).toArray, params := params.toArray, assign, body, defers := (ι d).1 })).run P w = .ok () w1 ∧
    Post P w0 base lo ι H w ι (H.set l (.loop st' pend' fn tmps params assign body d)) w1 :=
  ⟨_, run_setObj _ _ _ (run_getLoop s h).2 (by simp), Post.putObj s h _ _ hlo (by have h2 := s.ok l _ h; exact h2) rfl⟩

theorem endRoundA_sound [E : Env] (s : Sim P w0 base ι H w) {l : Nat} {jump : Option Code} {v : AV} {H' : Heap} (h : endRoundA H l jump = some (v, H')) (hlo : lo ≤ l) :
    ∃ w', (Instr.endRound (ι l).1 jump).run P w = .ok (v.conc ι) w' ∧ Post P w0 base lo ι H w ι H' w' ∧ v.OK w0 base H'.next := by
  unfold endRoundA at h
  split at h
  · rename_i pend fn tmps params assign body d hb
    cases h
    obtain ⟨w1, h1, h2⟩ := Post.loop (lo := lo) s hb (if jump.isNone then .ready else .done) jump hlo
    refine ⟨_, ?_, h2, trivial⟩
    simp only [Instr.endRound, Sem.run_bind, (run_getLoop s hb).1, Result.andThen_ok, h1, Sem.run_pure, AV.conc]
  · cases h

theorem roundA_sound [E : Env] (hS : Sound P w0 base ex) (s : Sim P w0 base ι H w) {l : Nat} {args : List AV} {v : AV} {H' : Heap} (h : roundA ex lo l args H = some (v, H')) (hargs : ∀ a ∈ args, a.OK w0 base H.next) (hlo : lo ≤ H.next) :
    ∃ f tmps assign body, (Instr.yield (ι l).1 (args.map (AV.conc ι)).toArray).run P w = .ok (.round (ι l).1 f tmps assign body) w ∧
      ∀ (d : Frame) (ds : List Frame), ∃ ι' w', Post P w0 base lo ι H w ι' H' w' ∧ v.OK w0 base H'.next ∧
        Steps P (lone (F ⟨f, .normal, some (ι l).1⟩ ⟨tmps, []⟩ [.code assign, .beginRound, .code body]) (d :: ds) w) (lone (d.finish (v.conc ι')) ds w') := by
  unfold roundA at h
  split at h
  · rename_i st0 pend0 fn tmps params assign body d0 hl
    split at h
    · rename_i hlol
      split at h
      · cases h
      · rename_i env henv
        obtain ⟨e1, e2, e3⟩ := setParams_sound (ι := ι) params args tmps env henv
        refine ⟨fn, (env.map (AV.conc ι)).toArray, assign, body, ?_, fun d ds => ?_⟩
        · simp only [Instr.yield, Sem.run_bind, (run_getLoop s hl).1, Result.andThen_ok]
          rw [if_neg (by simp [e1])]
          simp only [pure_bind, Sem.run_pure]
          congr 2
          rw [← e2]
          simp
        · have hlt := s.lt l _ hl
          have hOKenv : ∀ u ∈ env, u.OK w0 base H.next := fun u hu => by
            rcases e3 u hu with hu | hu
            · exact (s.ok l _ hl).1 u hu
            · exact hargs u hu
          have hA : ARel w0 base lo ι H.next env [] ⟨(env.map (AV.conc ι)).toArray, []⟩ := ⟨rfl, hOKenv, rfl, by simp⟩
          have hC : CRel ι H.next ⟨fn, some l⟩ ⟨fn, .normal, some (ι l).1⟩ := ⟨rfl, rfl, .inr ⟨l, rfl, hlt, rfl⟩⟩
          split at h
          · rename_i env1 H1 hex1
            obtain ⟨ι1, w1, a1, hp1, hA1, hR1⟩ := hS _ _ _ _ _ _ hex1 ι w _ _ s hA hC hlo [.beginRound, .code body] (d :: ds)
            simp only at hp1 hA1
            have hιl : ι1 l = ι l := hp1.ext l hlt
            split at h
            · rename_i pend fn1 tmps1 params1 assign1 body1 d1 hl1
              obtain ⟨wb, hset, hp2⟩ := Post.loop (lo := lo) hp1.sim hl1 .busy pend hlol
              have hbeg : (Instr.beginRound (ι l).1).run P w1 = .ok () wb := by
                rw [← hιl]
                simp only [Instr.beginRound, Sem.run_bind, (run_getLoop hp1.sim hl1).1, Result.andThen_ok, hset]
                rfl
              have hsteps1 : Steps P (lone (F ⟨fn, .normal, some (ι l).1⟩ ⟨(env.map (AV.conc ι)).toArray, []⟩ [.code assign, .beginRound, .code body]) (d :: ds) w) (lone (F ⟨fn, .normal, some (ι l).1⟩ a1 [.code body]) (d :: ds) wb) :=
                Steps.trans hR1 (.one (st_beginRound rfl hbeg))
              have hp12 := hp1.trans hp2
              have hC1 : CRel ι1 H1.next ⟨fn, some l⟩ ⟨fn, .normal, some (ι l).1⟩ := hC.ext hp1.ext hp1.next
              have hlo1 : lo ≤ H1.next := Nat.le_trans hlo hp1.next
              -- the body, whatever way it ends
              have hbody : ∀ e env2 H2, ex ⟨fn, some l⟩ lo body ⟨env1, [], H1.set l (.loop .busy pend fn1 tmps1 params1 assign1 body1 d1)⟩ = some (e, ⟨env2, [], H2⟩) →
                  ∃ ι2 w2 a2, Post P w0 base lo ι H w ι2 H2 w2 ∧ ι2 l = ι l ∧ Reach P (lone (F ⟨fn, .normal, some (ι l).1⟩ ⟨(env.map (AV.conc ι)).toArray, []⟩ [.code assign, .beginRound, .code body]) (d :: ds) w) ⟨fn, .normal, some (ι l).1⟩ [] (d :: ds) e a2 w2 := by
                intro e env2 H2 hex2
                obtain ⟨ι2, w2, a2, hp3, hA3, hR3⟩ := hS _ _ _ _ _ _ hex2 ι1 _ a1 _ hp2.sim hA1 hC1 hlo1 [] (d :: ds)
                have hp := hp12.trans hp3
                exact ⟨ι2, w2, a2, hp, hp.ext l hlt, hR3.of_steps hsteps1⟩
              split at h
              · rename_i env2 H2 hex2
                obtain ⟨ι2, w2, a2, hp, hl2, hR⟩ := hbody _ _ _ hex2
                obtain ⟨w3, hend, hp4, hv⟩ := endRoundA_sound hp.sim h hlol
                rw [hl2] at hend
                exact ⟨ι2, w3, hp.trans hp4, hv, Steps.trans hR (.one (st_endRound rfl rfl hend))⟩
              · rename_i env2 H2 hex2
                obtain ⟨ι2, w2, a2, hp, hl2, hR⟩ := hbody _ _ _ hex2
                obtain ⟨w3, hend, hp4, hv⟩ := endRoundA_sound hp.sim h hlol
                rw [hl2] at hend
                obtain ⟨k1, hR⟩ := hR
                exact ⟨ι2, w3, hp.trans hp4, hv, Steps.trans hR (.one (st_retRound rfl rfl hend))⟩
              · rename_i id env2 H2 hex2
                obtain ⟨ι2, w2, a2, hp, hl2, hR⟩ := hbody _ _ _ hex2
                obtain ⟨w3, hend, hp4, hv⟩ := endRoundA_sound hp.sim h hlol
                rw [hl2] at hend
                obtain ⟨k1, hk1, hR⟩ := hR
                exact ⟨ι2, w3, hp.trans hp4, hv, Steps.trans hR (.one (st_exitRound rfl rfl (by rw [hk1]; rfl) hend))⟩
              · cases h
            · cases h
          · cases h
    · cases h
  · cases h

theorem callA_body [E : Env] {f : FuncId} {args : List AV} {r : AV × Heap} (h : callA P ex lo f args H = some r) : ∃ fn c, P.funcs[f]? = some fn ∧ fn.body = some c := by
  unfold callA at h
  cases hf : P.funcs[f]? with
  | none => simp [hf] at h
  | some fn =>
    cases hb : fn.body with
    | none => simp [hf, hb] at h
    | some c => exact ⟨fn, c, rfl, hb⟩
theorem run_callFunc [E : Env] (hN : Names P) {f : FuncId} {fn : Func} {c : Code} (hf : P.funcs[f]? = some fn) (hb : fn.body = some c) (args : Array Value) : (callFunc f args).run P w = .ok (.enter f args) w := by
  have : fn.name ≠ "runtime.NumGoroutine" := by have := hN.names f fn hf; simpa using this
  simp [callFunc, program, Sem.run, hf, this, hb]

theorem yielded_eq {env : List AV} (ops : Array Oper) (j : Nat) : yielded ops (env.map (AV.conc ι)).toArray j = yieldedA ops env j := by
  unfold yielded yieldedA
  cases hd : (ops[j]?).bind (·.dst) with
  | none => rfl
  | some t =>
    simp only [Option.bind_some, List.getElem?_toArray, List.getElem?_map]
    cases ht : env[t]? with
    | none => rfl
    | some v =>
      simp only [Option.map_some]
      cases v <;> try rfl
      rename_i b; cases b <;> rfl
theorem wanted_eq [E : Env] {env : List AV} (ops : Array Oper) (o : Oper) : Region.wanted o (yielded ops (env.map (AV.conc ι)).toArray) = Region.wanted o (yieldedA ops env) := by
  have : yielded ops (env.map (AV.conc ι)).toArray = yieldedA ops env := funext fun j => yielded_eq ops j
  rw [this]

theorem opA_sound [E : Env] (hN : Names P) (hS : Sound P w0 base ex) (s : Sim P w0 base ι H w) {env : List AV} {o : Oper} {v : AV} {H' : Heap} (h : opA P ex lo env H o = some (v, H')) (hlo : lo ≤ H.next) (c : RC) (a : Act)
    (hE : ∀ x ∈ o.op.operands, Ev w0 base H.next ι env a.eval x) {ops : Array Oper} {i : Nat} (ho : ops[i]? = some o) (hw : Region.wanted o (yielded ops a.tmps) = true) (rest : List Nat) (k : List Item) (cs : List Frame) :
    ∃ ι' w', Post P w0 base lo ι H w ι' H' w' ∧ v.OK w0 base H'.next ∧ Steps P (lone (F c a (.inRegion ops (i :: rest) :: k)) cs w) (lone (F c (a.put o.dst (v.conc ι')) (.inRegion ops rest :: k)) cs w') := by
  by_cases hcall : ∃ f args ats, o.op = .call { callee := .value f, args := args, argTypes := ats }
  · obtain ⟨f, args, ats, hop⟩ := hcall
    have hd : ∀ x, o.op ≠ .defer x := fun x => by rw [hop]; simp
    unfold opA at h
    rw [hop] at h
    simp only at h
    obtain ⟨fv, hfv, h⟩ := bind1 h
    obtain ⟨vs, hvs, h⟩ := bind1 h
    rw [hop] at hE
    obtain ⟨ef, efOK⟩ := hE f (by simp [Op.operands, Call.operands]) fv hfv
    obtain ⟨e1, e2⟩ := evalL_sound (ι := ι) (ρ := a.eval) args.toList vs hvs (fun y hy => hE y (by simp [Op.operands, Call.operands]; exact .inr (by simpa using hy)))
    have e3 : args.map a.eval = (vs.map (AV.conc ι)).toArray := by rw [← e1]; apply Array.ext'; simp
    have hfin : ∀ u, (F c a (.inRegion ops (i :: rest) :: k)).finish u = F c (a.put o.dst u) (.inRegion ops rest :: k) := fun u => by
      rw [F_finish, ho]; rfl
    cases fv with
    | func g first cap =>
      simp only [callV] at h
      simp only [AV.OK] at efOK
      obtain ⟨fn, body, hf, hb⟩ := callA_body h
      have hexec : (execOp a.eval o).run P w = .ok (.enter g ((first ++ vs ++ cap).map (AV.conc ι)).toArray) w := by
        simp only [execOp, hop, resolve, ef, AV.conc, Deferred.ofValue, pure_bind, invoke, e3, concL_eq]
        rw [run_callFunc hN hf hb]
        congr 2
        apply Array.ext'
        simp
      obtain ⟨ι', w', fr, h1, h2, h3, h4, _⟩ := callA_sound hN.summ hS s h (fun x hx => by
        rcases List.mem_append.1 hx with hx | hx
        · rcases List.mem_append.1 hx with hx | hx
          · exact (OKL_iff ..).1 efOK.1 x hx
          · exact e2 x hx
        · exact (OKL_iff ..).1 efOK.2 x hx) hlo (F c a (.inRegion ops (i :: rest) :: k) :: cs)
      refine ⟨ι', w', h1, h2, Steps.head (st_enter ho hw hd hexec) (h3.trans (.one ?_))⟩
      rw [st_leave h4, hfin]
    | yieldf l =>
      simp only [callV] at h
      obtain ⟨f', tmps, assign, body, hy, hround⟩ := roundA_sound hS s h e2 hlo
      have hexec : (execOp a.eval o).run P w = .ok (.round (ι l).1 f' tmps assign body) w := by
        simp only [execOp, hop, resolve, ef, AV.conc, Deferred.ofValue, pure_bind, invoke, e3]
        simpa using hy
      obtain ⟨ι', w', h1, h2, h3⟩ := hround (F c a (.inRegion ops (i :: rest) :: k)) cs
      refine ⟨ι', w', h1, h2, Steps.head (st_round ho hw hd hexec) ?_⟩
      rw [← hfin]; exact h3
    | _ => simp [callV] at h
  · have h' : aop P lo env H o = some (v, H') := by
      unfold opA at h
      split at h
      · rename_i f args ats hop; exact absurd ⟨_, _, _, hop⟩ hcall
      · exact h
    have hd : ∀ x, o.op ≠ .defer x := fun x e => by
      obtain ⟨dst, op, type, pos, after, guard⟩ := o
      simp only at e; subst e; simp [aop] at h'
    obtain ⟨ι', w', h1, h2, h3⟩ := aop_sound s h' a.eval hE hlo
    refine ⟨ι', w', h2, h3, .one (st_val ho hw hd ?_)⟩
    rcases h1 with h1 | ⟨rfl, h1⟩
    · exact .inl h1
    · exact .inr ⟨undef_conc ι', h1⟩

theorem runOps_sound [E : Env] (hN : Names P) (hS : Sound P w0 base ex) (ops : Array Oper) (marks : List Nat) (c : RC) (k : List Item) (cs : List Frame) : ∀ (l : List Oper) (i : Nat) (env : List AV) (H : Heap) (env' : List AV) (H' : Heap) (ι : Inj) (w : World) (a : Act),
    (∀ j, l[j]? = ops[i + j]?) → runOps P ex lo ops l env H = some (env', H') → Sim P w0 base ι H w → ARel w0 base lo ι H.next env marks a → lo ≤ H.next →
    ∃ ι' w' a', Post P w0 base lo ι H w ι' H' w' ∧ ARel w0 base lo ι' H'.next env' marks a' ∧ Steps P (lone (F c a (.inRegion ops (List.range' i l.length) :: k)) cs w) (lone (F c a' (.inRegion ops [] :: k)) cs w')
  | [], i, env, H, env', H', ι, w, a, _, h, s, hA, hlo => by
    simp only [runOps] at h; cases h
    exact ⟨ι, w, a, Post.refl s, hA, Steps.refl P _⟩
  | o :: l, i, env, H, env', H', ι, w, a, hl, h, s, hA, hlo => by
    have ho : ops[i]? = some o := by simpa using (hl 0).symm
    have hl' : ∀ j, l[j]? = ops[i + 1 + j]? := fun j => by have := hl (j + 1); simpa [Nat.add_assoc, Nat.add_comm 1 j] using this
    simp only [runOps] at h
    simp only [List.length_cons, List.range'_succ]
    have hwe : Region.wanted o (yielded ops a.tmps) = Region.wanted o (yieldedA ops env) := by rw [hA.tmps]; exact wanted_eq ops o
    split at h
    · rename_i hwant
      split at h
      · rename_i v H1 hop
        obtain ⟨ι1, w1, hp, hv, hst⟩ := opA_sound hN hS s hop hlo c a (fun x _ => hA.ev s.gl x) ho (by rw [hwe]; exact hwant) (List.range' (i + 1) l.length) k cs
        obtain ⟨ι2, w2, a2, hp2, hA2, hst2⟩ := runOps_sound hN hS ops marks c k cs l (i + 1) _ H1 env' H' ι1 w1 (a.put o.dst (v.conc ι1)) hl' h hp.sim ((hA.ext hp.ext hp.next).put o.dst hv) (Nat.le_trans hlo hp.next)
        exact ⟨ι2, w2, a2, hp.trans hp2, hA2, hst.trans hst2⟩
      · cases h
    · rename_i hwant
      have hsk := st_opSkip (P := P) (c := c) (a := a) (k := k) (cs := cs) (w := w) (ops := ops) (i := i) (rest := List.range' (i + 1) l.length) (by rw [ho]; simp [hwe]; simpa using hwant)
      rw [ho] at hsk
      simp only [Option.bind_some] at hsk
      have hA' := hA.put o.dst (v := undefA) (by simp [undefA, AV.OK, AV.OKL])
      rw [undef_conc] at hA'
      obtain ⟨ι2, w2, a2, hp2, hA2, hst2⟩ := runOps_sound hN hS ops marks c k cs l (i + 1) _ H env' H' ι w (a.put o.dst undef) hl' h s hA' hlo
      exact ⟨ι2, w2, a2, hp2, hA2, Steps.head hsk hst2⟩
end
end Go.Ab
