/- What the law's proof leans on, part 42. Conditions: in each statement. -/
import Derived.Test.YtibehelnfbcnjaaGreatDoorQW15
set_option linter.all false
set_option linter.unusedSimpArgs false
set_option linter.unusedVariables false
set_option linter.unusedSectionVars false
namespace Go.Ab
open Go Go.RowKit
structure Names (P : Program) : Prop where
  names : ∀ (f : Nat) (fn : Func), P.funcs[f]? = some fn → (fn.name == "runtime.NumGoroutine") = false
section
variable {P : Program} {w0 : World} {base lo : Nat} {ι ι1 ι2 : Inj} {H H1 H2 : Heap} {w w1 w2 : World} {ex : ExF}
theorem CPost.post [E : Env] (p : CPost P w0 base H.next ι H w ι1 H1 w1) : Post P w0 base 0 ι H w ι1 H1 w1 where
  sim := p.sim
  ext := p.ext
  next := p.hpin
  keep := fun b hb => by omega
  alive := p.alive
  size := p.size
  frame := fun r hr hne => p.frame r hr fun b x hx => hne b x hx (Nat.zero_le _)
  newr := fun b x hx _ => (p.newr b x hx).imp id fun ⟨b0, x0, h0, he⟩ => ⟨b0, x0, h0, Nat.zero_le _, he⟩
theorem zhp : ∀ (ts : List Tmp) (vs : List AV) (env env' : EV) (tv : Array Value), zbk env ts vs = some env' → TR ι env tv →
    ts.length = vs.length ∧ TR ι env' ((ts.zip (vs.map (AV.conc ι))).foldl (fun (tm : Array Value) (p : Tmp × Value) => tm.setIfInBounds p.1 p.2) tv) ∧ ∀ v ∈ vals env'.s, v ∈ vals env.s ∨ v ∈ vs
  | [], [], env, env', tv, h, r => by simp only [zbk] at h; cases h; exact ⟨rfl, r, fun v hv => .inl hv⟩
  | [], _ :: _, env, env', tv, h, r => by simp [zbk] at h
  | _ :: _, [], env, env', tv, h, r => by simp [zbk] at h
  | t :: ts, v :: vs, env, env', tv, h, r => by
    simp only [zbk] at h
    obtain ⟨h1, h2, h3⟩ := zhp ts vs (env.set t v) env' _ h (r.set t v)
    refine ⟨by simp [h1], by simpa using h2, fun u hu => ?_⟩
    rcases h3 u hu with hu | hu
    · rcases zrt hu with rfl | hu
      · exact .inr (by simp)
      · exact .inl hu
    · exact .inr (by simp [hu])
theorem zgg [E : Env] (s : Sim P w0 base ι H w) {l : Nat} {st : LoopState} {pend : Option Code} {fn : FuncId} {tmps : EV} {params : List Tmp} {assign body : Code} {d : Nat} (h : H.get l = some (.loop st pend fn tmps params assign body d)) :
    ∃ tv, TR ι tmps tv ∧ (Instr.getLoop (ι l).1).run P w = .ok { state := st, pending := pend, fn, tmps := tv, params := params.toArray, assign, body, defers := (ι d).1 } w ∧
      w.heap[(ι l).1]? = some (.loop { state := st, pending := pend, fn, tmps := tv, params := params.toArray, assign, body, defers := (ι d).1 }) := by
  obtain ⟨tv, h1, hr⟩ := s.rel l _ h
  exact ⟨tv, h1, by simp [Instr.getLoop, getObj, Sem.run, hr], hr⟩
theorem Post.loop [E : Env] (s : Sim P w0 base ι H w) {l : Nat} {st : LoopState} {pend : Option Code} {fn : FuncId} {tmps : EV} {params : List Tmp} {assign body : Code} {d : Nat} (h : H.get l = some (.loop st pend fn tmps params assign body d)) (st' : LoopState) (pend' : Option Code) (hlo : lo ≤ l) :
    ∃ tv, TR ι tmps tv ∧ (Instr.getLoop (ι l).1).run P w = .ok { state := st, pending := pend, fn, tmps := tv, params := params.toArray, assign, body, defers := (ι d).1 } w ∧
    ∃ w1, (setObj (ι l).1 (.loop { state := st', pending := pend', fn, tmps := tv, params := params.toArray, assign, body, defers := (ι d).1 })).run P w = .ok () w1 ∧
    Post P w0 base lo ι H w ι (H.set l (.loop st' pend' fn tmps params assign body d)) w1 := by
  obtain ⟨tv, h1, h2, h3⟩ := zgg s h
  exact ⟨tv, h1, h2, _, zcr _ _ _ h3 (by simp), Post.putObj s h _ _ hlo (by have h2 := s.ok l _ h; exact h2) ⟨tv, h1, rfl⟩⟩
theorem zef [E : Env] (s : Sim P w0 base ι H w) {l : Nat} {jump : Option Code} {v : AV} {H' : Heap} (h : zci H l jump = some (v, H')) (hlo : lo ≤ l) :
    ∃ w', (Instr.endRound (ι l).1 jump).run P w = .ok (v.conc ι) w' ∧ Post P w0 base lo ι H w ι H' w' ∧ v.OK w0 base H'.next := by
  unfold zci at h
  split at h
  · rename_i pend fn tmps params assign body d hb
    cases h
    obtain ⟨tv, _, h0, w1, h1, h2⟩ := Post.loop (lo := lo) s hb (if jump.isNone then .ready else .done) jump hlo
    refine ⟨_, ?_, h2, trivial⟩
    simp only [Instr.endRound, Sem.run_bind, h0, Result.andThen_ok, h1, Sem.run_pure, AV.conc]
  · cases h
theorem zuf [E : Env] (hS : zks P ex) (s : Sim P w0 base ι H w) {l : Nat} {args : List AV} {v : AV} {H' : Heap} (h : zlv ex 0 l args H = some (v, H')) (hargs : ∀ a ∈ args, a.OK w0 base H.next) :
    ∃ f tmps assign body, (Instr.yield (ι l).1 (args.map (AV.conc ι)).toArray).run P w = .ok (.round (ι l).1 f tmps assign body) w ∧
      ∀ (d : Frame) (ds : List Frame), ∃ ι' w', Post P w0 base 0 ι H w ι' H' w' ∧ v.OK w0 base H'.next ∧
        Steps P (lone (F ⟨f, .normal, some (ι l).1⟩ ⟨tmps, []⟩ [.code assign, .beginRound, .code body]) (d :: ds) w) (lone (d.finish (v.conc ι')) ds w') := by
  unfold zlv at h
  split at h
  · rename_i st0 pend0 fn tmps params assign body d0 hl
    rw [if_pos (Nat.zero_le l)] at h
    split at h
    · cases h
    · rename_i env henv
      obtain ⟨tv, htv, hgl, hobj⟩ := zgg s hl
      obtain ⟨e1, e2, e3⟩ := zhp params args tmps env tv henv htv
      refine ⟨fn, (params.zip (args.map (AV.conc ι))).foldl (fun (tm : Array Value) (p : Tmp × Value) => tm.setIfInBounds p.1 p.2) tv, assign, body, ?_, fun d ds => ?_⟩
      · simp only [Instr.yield, Sem.run_bind, hgl, Result.andThen_ok]
        rw [if_neg (by simp [e1])]
        simp only [pure_bind, Sem.run_pure]
        congr 2
        simp
      · have hlt := s.lt l _ hl
        have hOKenv : ∀ u ∈ vals env.s, u.OK w0 base H.next := fun u hu => by
          rcases e3 u hu with hu | hu
          · exact (s.ok l _ hl).1 u hu
          · exact hargs u hu
        generalize (params.zip (args.map (AV.conc ι))).foldl (fun (tm : Array Value) (p : Tmp × Value) => tm.setIfInBounds p.1 p.2) tv = tm at e2 ⊢
        have hA : ARel w0 base ι H.next env [] ⟨tm, []⟩ := ⟨e2, hOKenv, rfl, by simp⟩
        have hC : CRel ι H.next ⟨fn, some l⟩ ⟨fn, .normal, some (ι l).1⟩ := ⟨rfl, rfl, .inr ⟨l, rfl, hlt, rfl⟩⟩
        split at h
        · rename_i env1 H1 hex1
          obtain ⟨ι1, w1, a1, hp1, hA1, hR1⟩ := hS _ _ _ _ _ hex1 w0 base ι w _ _ s hA hC (Nat.le_refl _) [.beginRound, .code body] (d :: ds)
          simp only at hp1 hA1
          have hιl : ι1 l = ι l := hp1.ext l hlt
          split at h
          · rename_i pend fn1 tmps1 params1 assign1 body1 d1 hl1
            obtain ⟨tv1, htv1, hgl1, wb, hset, hp2⟩ := Post.loop (lo := 0) hp1.sim hl1 .busy pend (Nat.zero_le _)
            have hbeg : (Instr.beginRound (ι l).1).run P w1 = .ok () wb := by
              rw [← hιl]
              simp only [Instr.beginRound, Sem.run_bind, hgl1, Result.andThen_ok, hset]
              rfl
            have hsteps1 : Steps P (lone (F ⟨fn, .normal, some (ι l).1⟩ ⟨tm, []⟩ [.code assign, .beginRound, .code body]) (d :: ds) w) (lone (F ⟨fn, .normal, some (ι l).1⟩ a1 [.code body]) (d :: ds) wb) :=
              Steps.trans hR1 (.one (zrx rfl hbeg))
            have hp12 := hp1.trans (hp2.code hp1.sim hp1.hpin)
            have hC1 : CRel ι1 H.next ⟨fn, some l⟩ ⟨fn, .normal, some (ι l).1⟩ := hC.ext hp1.ext (Nat.le_refl _)
            have hbody : ∀ e env2 H2, ex ⟨fn, some l⟩ H1.next body ⟨env1, [], H1.set l (.loop .busy pend fn1 tmps1 params1 assign1 body1 d1)⟩ = some (e, ⟨env2, [], H2⟩) →
                ∃ ι2 w2 a2, CPost P w0 base H.next ι H w ι2 H2 w2 ∧ ι2 l = ι l ∧ Reach P (lone (F ⟨fn, .normal, some (ι l).1⟩ ⟨tm, []⟩ [.code assign, .beginRound, .code body]) (d :: ds) w) ⟨fn, .normal, some (ι l).1⟩ [] (d :: ds) e a2 w2 := by
              intro e env2 H2 hex2
              have hC2 : CRel ι1 H1.next ⟨fn, some l⟩ ⟨fn, .normal, some (ι l).1⟩ := hC1.ext (fun _ _ => rfl) hp1.hpin
              obtain ⟨ι2, w2, a2, hp3, hA3, hR3⟩ := hS _ _ _ _ _ hex2 w0 base ι1 _ a1 _ hp2.sim hA1 hC2 (Nat.le_refl _) [] (d :: ds)
              have hp := hp12.trans (hp3.mono hp1.hpin)
              exact ⟨ι2, w2, a2, hp, hp.ext l hlt, hR3.of_steps hsteps1⟩
            split at h
            · rename_i env2 H2 hex2
              obtain ⟨ι2, w2, a2, hp, hl2, hR⟩ := hbody _ _ _ hex2
              obtain ⟨w3, hend, hp4, hv⟩ := zef (lo := 0) hp.sim h (Nat.zero_le _)
              rw [hl2] at hend
              exact ⟨ι2, w3, hp.post.trans hp4, hv, Steps.trans hR (.one (zwr rfl rfl hend))⟩
            · rename_i env2 H2 hex2
              obtain ⟨ι2, w2, a2, hp, hl2, hR⟩ := hbody _ _ _ hex2
              obtain ⟨w3, hend, hp4, hv⟩ := zef (lo := 0) hp.sim h (Nat.zero_le _)
              rw [hl2] at hend
              obtain ⟨k1, hR⟩ := hR
              exact ⟨ι2, w3, hp.post.trans hp4, hv, Steps.trans hR (.one (zws rfl rfl hend))⟩
            · rename_i id env2 H2 hex2
              obtain ⟨ι2, w2, a2, hp, hl2, hR⟩ := hbody _ _ _ hex2
              obtain ⟨w3, hend, hp4, hv⟩ := zef (lo := 0) hp.sim h (Nat.zero_le _)
              rw [hl2] at hend
              obtain ⟨k1, hk1, hR⟩ := hR
              exact ⟨ι2, w3, hp.post.trans hp4, hv, Steps.trans hR (.one (zuk rfl rfl (by rw [hk1]; rfl) hend))⟩
            · cases h
          · cases h
        · cases h
  · cases h
theorem zlw (hN : Names P) {f : FuncId} {fn : Func} {c : Code} (hf : P.funcs[f]? = some fn) (hb : fn.body = some c) (args : Array Value) : (callFunc f args).run P w = .ok (.enter f args) w := by
  have : fn.name ≠ "runtime.NumGoroutine" := by have := hN.names f fn hf; simpa using this
  simp [callFunc, program, Sem.run, hf, this, hb]
def yaxv : AV → Option Bool
  | .bool x => some x
  | _ => none
theorem yaa6 {tv : Array Value} {ops : Array Oper} {j t : Nat} {v : AV} (hd : (ops[j]?).bind (·.dst) = some t) (hv : tv[t]? = some (v.conc ι)) : yielded ops tv j = yaxv v := by
  unfold yielded
  rw [hd, Option.bind_some, hv]
  cases v <;> try rfl
  rename_i b; cases b <;> rfl
theorem zw0 {env : EV} {tv : Array Value} {ops : Array Oper} {o : Oper} {b : Bool} (r : ∀ t v, (∃ j g, o.guard = some (j, g) ∧ (ops[j]?).bind (·.dst) = some t) → env.look t = some v → tv[t]? = some (v.conc ι)) (h : zle ops env o = some b) : Region.wanted o (yielded ops tv) = b := by
  unfold zle at h
  unfold Region.wanted
  cases hg : o.guard with
  | none => rw [hg] at h; cases h; rfl
  | some p =>
    obtain ⟨j, g⟩ := p
    rw [hg] at h
    simp only at h ⊢
    cases hd : (ops[j]?).bind (·.dst) with
    | none => rw [hd] at h; cases h
    | some t =>
      rw [hd, Option.bind_some] at h
      cases hv : env.look t with
      | none => rw [hv] at h; cases h
      | some v =>
        rw [hv] at h
        rw [yaa6 hd (r t v ⟨j, g, hg, hd⟩ hv)]
        cases v <;> simp only [Option.some.injEq] at h <;> subst h <;> rfl
theorem zt1 [E : Env] (hN : Names P) (hS : zks P ex) (s : Sim P w0 base ι H w) {env : EV} {o : Oper} {v : AV} {H' : Heap} (h : opA P ex 0 env H o = some (v, H')) (c : RC) (a : Act)
    (hE : ∀ x ∈ o.op.operands, Ev w0 base H.next ι env a.eval x) {ops : Array Oper} {i : Nat} (ho : ops[i]? = some o) (hw : Region.wanted o (yielded ops a.tmps) = true) (rest : List Nat) (k : List Item) (cs : List Frame) :
    ∃ ι' w', Post P w0 base 0 ι H w ι' H' w' ∧ v.OK w0 base H'.next ∧ Steps P (lone (F c a (.inRegion ops (i :: rest) :: k)) cs w) (lone (F c (a.put o.dst (v.conc ι')) (.inRegion ops rest :: k)) cs w') := by
  by_cases hcall : ∃ f args ats, o.op = .call { callee := .value f, args := args, argTypes := ats }
  · obtain ⟨f, args, ats, hop⟩ := hcall
    have hd : ∀ x, o.op ≠ .defer x := fun x => by rw [hop]; simp
    unfold opA at h
    rw [hop] at h
    simp only at h
    obtain ⟨fv, hfv, h⟩ := zbe h
    obtain ⟨vs, hvs, h⟩ := zbe h
    rw [hop] at hE
    obtain ⟨ef, efOK⟩ := hE f (by simp [Op.operands, Call.operands]) fv hfv
    obtain ⟨e1, e2⟩ := zeh (ι := ι) (ρ := a.eval) args.toList vs hvs (fun y hy => hE y (by simp [Op.operands, Call.operands]; exact .inr (by simpa using hy)))
    have e3 : args.map a.eval = (vs.map (AV.conc ι)).toArray := by rw [← e1]; apply Array.ext'; simp
    have hfin : ∀ u, (F c a (.inRegion ops (i :: rest) :: k)).finish u = F c (a.put o.dst u) (.inRegion ops rest :: k) := fun u => by
      rw [zqe, ho]; rfl
    cases fv with
    | func g first cap =>
      simp only [zky] at h
      simp only [AV.OK] at efOK
      obtain ⟨⟨fn, body, hf, hb⟩, ι', w', fr, h1, h2, h3, h4, _⟩ := zm4 hS s h (fun x hx => by
        rcases List.mem_append.1 hx with hx | hx
        · rcases List.mem_append.1 hx with hx | hx
          · exact (zar ..).1 efOK.1 x hx
          · exact e2 x hx
        · exact (zar ..).1 efOK.2 x hx) (F c a (.inRegion ops (i :: rest) :: k) :: cs)
      have hexec : (execOp a.eval o).run P w = .ok (.enter g ((first ++ vs ++ cap).map (AV.conc ι)).toArray) w := by
        simp only [execOp, hop, resolve, ef, AV.conc, Deferred.ofValue, pure_bind, invoke, e3, zaz]
        rw [zlw hN hf hb]
        congr 2
        apply Array.ext'
        simp
      refine ⟨ι', w', h1, h2, Steps.head (yaji ho hw hd hexec) (h3.trans (.one ?_))⟩
      rw [zy9 h4, hfin]
    | yieldf l =>
      simp only [zky] at h
      obtain ⟨f', tmps, assign, body, hy, hround⟩ := zuf hS s h e2
      have hexec : (execOp a.eval o).run P w = .ok (.round (ι l).1 f' tmps assign body) w := by
        simp only [execOp, hop, resolve, ef, AV.conc, Deferred.ofValue, pure_bind, invoke, e3]
        simpa using hy
      obtain ⟨ι', w', h1, h2, h3⟩ := hround (F c a (.inRegion ops (i :: rest) :: k)) cs
      refine ⟨ι', w', h1, h2, Steps.head (yajj ho hw hd hexec) ?_⟩
      rw [← hfin]; exact h3
    | _ => simp [zky] at h
  · have h' : aop P 0 env H o = some (v, H') := by
      unfold opA at h
      split at h
      · rename_i f args ats hop; exact absurd ⟨_, _, _, hop⟩ hcall
      · exact h
    have hd : ∀ x, o.op ≠ .defer x := fun x e => by
      obtain ⟨dst, op, type, pos, after, guard⟩ := o
      simp only at e; subst e; simp [aop] at h'
    obtain ⟨ι', w', h1, h2, h3⟩ := yabu s h' a.eval hE (Nat.zero_le _)
    refine ⟨ι', w', h2, h3, .one (yavu ho hw hd ?_)⟩
    rcases h1 with h1 | ⟨rfl, h1⟩
    · exact .inl h1
    · exact .inr ⟨zlb ι', h1⟩
theorem ze7 [E : Env] (hN : Names P) (hS : zks P ex) (ops : Array Oper) (marks : List Nat) (c : RC) (k : List Item) (cs : List Frame) : ∀ (l : List Oper) (i : Nat) (env : EV) (H : Heap) (env' : EV) (H' : Heap) (ι : Inj) (w : World) (a : Act),
    (∀ j, l[j]? = ops[i + j]?) → ze6 P ex ops l env H = some (env', H') → Sim P w0 base ι H w → ARel w0 base ι H.next env marks a →
    ∃ ι' w' a', Post P w0 base 0 ι H w ι' H' w' ∧ ARel w0 base ι' H'.next env' marks a' ∧ Steps P (lone (F c a (.inRegion ops (List.range' i l.length) :: k)) cs w) (lone (F c a' (.inRegion ops [] :: k)) cs w')
  | [], i, env, H, env', H', ι, w, a, _, h, s, hA => by
    simp only [ze6] at h; cases h
    exact ⟨ι, w, a, Post.refl s, hA, Steps.refl P _⟩
  | o :: l, i, env, H, env', H', ι, w, a, hl, h, s, hA => by
    have ho : ops[i]? = some o := by simpa using (hl 0).symm
    have hl' : ∀ j, l[j]? = ops[i + 1 + j]? := fun j => by have := hl (j + 1); simpa [Nat.add_assoc, Nat.add_comm 1 j] using this
    simp only [ze6] at h
    simp only [List.length_cons, List.range'_succ]
    split at h
    · rename_i hwant
      have hwe := zw0 (fun t v _ hv => hA.tr.2 t v hv) hwant
      split at h
      · rename_i v H1 hop
        obtain ⟨ι1, w1, hp, hv, hst⟩ := zt1 hN hS s hop c a (fun x _ => hA.ev s.gl x) ho hwe (List.range' (i + 1) l.length) k cs
        obtain ⟨ι2, w2, a2, hp2, hA2, hst2⟩ := ze7 hN hS ops marks c k cs l (i + 1) _ H1 env' H' ι1 w1 (a.put o.dst (v.conc ι1)) hl' h hp.sim ((hA.ext hp.ext hp.next).put o.dst hv)
        exact ⟨ι2, w2, a2, hp.trans hp2, hA2, hst.trans hst2⟩
      · cases h
    · rename_i hwant
      have hwe := zw0 (fun t v _ hv => hA.tr.2 t v hv) hwant
      have hsk := zul (P := P) (c := c) (a := a) (k := k) (cs := cs) (w := w) (ops := ops) (i := i) (rest := List.range' (i + 1) l.length) (by rw [ho]; simp [hwe])
      rw [ho] at hsk
      simp only [Option.bind_some] at hsk
      have hA' := hA.put o.dst (v := undefA) (by simp [undefA, AV.OK, AV.OKL])
      rw [zlb] at hA'
      obtain ⟨ι2, w2, a2, hp2, hA2, hst2⟩ := ze7 hN hS ops marks c k cs l (i + 1) _ H env' H' ι w (a.put o.dst undef) hl' h s hA'
      exact ⟨ι2, w2, a2, hp2, hA2, Steps.head hsk hst2⟩
    · cases h
end
end Go.Ab
