/- What the law's proof leans on, part 47. Conditions: in each statement. -/
import Derived.Test.YtibehelnfbcnjaaGreatDoorQW20
set_option linter.all false
set_option linter.unusedSimpArgs false
set_option linter.unusedVariables false
set_option linter.unusedSectionVars false
namespace Go.Ab
open Go Go.RowKit
section
variable {P : Program} {w0 : World} {base pin : Nat} {ι ι0 ι1 ι2 : Inj} {H H1 H2 : Heap} {w w00 w1 w2 : World} {ex : ExF}
theorem zqf (c : RC) (a : Act) (l : Nat) (k : List Item) (v : Value) : (F c a (.inRangeFunc l :: k)).finish v = F c a (.endRangeFunc l :: k) := rfl
theorem zn8 [E : Env] (hN : Names P) (hS : zks P ex) {cx : Ctx} {st st' : St} {e : Ex} {f : Operand} {params : Array Tmp} {assign body : Code} (h : zcb P ex cx pin (.rangeFunc f params assign body) st = some (e, st'))
    (s : Sim P w0 base ι st.H w) {a : Act} (hA : ARel w0 base ι st.H.next st.env st.marks a) {c : RC} (hC : CRel ι pin cx c) (hpin : pin ≤ st.H.next) (k : List Item) (cs : List Frame) :
    ∃ ι' w' a', CPost P w0 base pin ι st.H w ι' st'.H w' ∧ ARel w0 base ι' st'.H.next st'.env st'.marks a' ∧ Reach P (lone (F c a (.code (.rangeFunc f params assign body) :: k)) cs w) c k cs e a' w' := by
  simp only [zcb] at h
  cases hfv : zau st.env f with
  | none => simp [hfv] at h
  | some fv =>
  simp only [hfv] at h
  obtain ⟨ef, efOK⟩ := hA.ev s.gl f fv hfv
  have start : ∃ d marks H ι1 w1 mark, zel cx.rnd st.marks st.H = some (d, marks, H) ∧
      Post P w0 base 0 ι st.H w ι1 H w1 ∧ d < H.next ∧ ARel w0 base ι1 H.next st.env marks ⟨a.tmps, mark ++ a.defers⟩ ∧
      (do let (defers, mark) ← (match c.rnd with
            | some l => do pure ((← Instr.getLoop l).defers, [])
            | none => do
              let r ← newObj (.deferred (some []))
              pure (r, [{ target := .collected r, args := #[] }]) : Sem (Nat × List Deferred))
          pure (defers, mark) : Sem (Nat × List Deferred)).run P w = .ok ((ι1 d).1, mark) w1 := by
    rcases hC.rnd with ⟨h1, h2⟩ | ⟨l, h1, h2, h3⟩
    · have hp := Post.alloc (lo := 0) s .dfr (.deferred (some [])) 0 trivial rfl (Nat.zero_le _)
      refine ⟨st.H.next, st.H.next :: st.marks, st.H.push .dfr, _, _, [zir (ι.put st.H.next w.heap.size 0) st.H.next], by rw [h1]; rfl, hp, by simp, ?_, ?_⟩
      · have hA' := hA.ext hp.ext hp.next
        refine ⟨hA'.tr, hA'.ok, ?_, fun b hb => ?_⟩
        · simp only [List.map_cons, List.singleton_append]
          congr 1
          exact hA'.defers
        · rcases List.mem_cons.1 hb with rfl | hb
          · simp
          · exact hA'.marks b hb
      · rw [h2]
        simp [newObj, Sem.run, zir]
    · cases hq : zel cx.rnd st.marks st.H with
      | none => simp [hq] at h
      | some q =>
        rw [h1] at hq
        simp only [zel] at hq
        split at hq
        · rename_i st1 pend fn tmps params1 assign1 body1 d1 hl
          cases hq
          obtain ⟨tv, _, hgl, _⟩ := zgg s hl
          refine ⟨d1, st.marks, st.H, ι, w, [], by first | rfl | (rw [h1]; simp [zel, hl]), Post.refl s, (s.ok l _ hl).2, by simpa using hA, ?_⟩
          rw [h3]
          simp [hgl]
        · cases hq
  obtain ⟨d, marks, H, ι1, w1, mark, hsel, hp1, hdlt, hA1, hrun1⟩ := start
  rw [hsel] at h
  simp only at h
  have hp2 := Post.alloc (lo := 0) hp1.sim (.loop .ready none cx.fn st.env params.toList assign body d)
    (.loop { state := .ready, pending := none, fn := c.fn, tmps := a.tmps, params, assign, body, defers := (ι1 d).1 }) 0 ⟨hA1.ok, hdlt⟩
    ⟨a.tmps, hA1.tr, by simp [hC.fn]⟩ (Nat.zero_le _)
  have hl : ((ι1.put H.next w1.heap.size 0) H.next).1 = w1.heap.size := by rw [Inj.put_same]
  have henter : (Instr.enterLoop c.fn a.tmps params assign body c.rnd).run P w = .ok (w1.heap.size, mark) (w1.alloc (.loop { state := .ready, pending := none, fn := c.fn, tmps := a.tmps, params, assign, body, defers := (ι1 d).1 })) := by
    have hr := hrun1
    unfold Instr.enterLoop
    cases hcr : c.rnd with
    | none =>
      rw [hcr] at hr
      simp only [Sem.run_bind, Sem.run_pure] at hr ⊢
      cases hx : (newObj (.deferred (some []))).run P w with
      | ok r w' =>
        rw [hx] at hr
        simp only [Result.andThen_ok, Result.ok.injEq, Prod.mk.injEq] at hr
        obtain ⟨⟨h1, h2⟩, h3⟩ := hr
        subst h1; subst h3
        simp only [Result.andThen_ok]
        simp [newObj, Sem.run, h2]
      | halt q w' => rw [hx] at hr; simp at hr
    | some l =>
      rw [hcr] at hr
      simp only [Sem.run_bind, Sem.run_pure] at hr ⊢
      cases hx : (Instr.getLoop l).run P w with
      | ok r w' =>
        rw [hx] at hr
        simp only [Result.andThen_ok, Result.ok.injEq, Prod.mk.injEq] at hr
        obtain ⟨⟨h1, h2⟩, h3⟩ := hr
        subst h2; subst h3
        simp only [Result.andThen_ok]
        simp [newObj, Sem.run, h1]
      | halt q w' => rw [hx] at hr; simp at hr
  clear hrun1 hsel
  generalize hW2 : (w1.alloc (.loop { state := .ready, pending := none, fn := c.fn, tmps := a.tmps, params, assign, body, defers := (ι1 d).1 })) = W2 at hp2 henter
  generalize hι2 : ι1.put H.next w1.heap.size 0 = ι2 at hp2 hl
  clear hW2 hι2
  split at h
  · rename_i r H' hcall
    cases fv <;> simp only at hcall <;> try (cases hcall; done)
    rename_i g first cap
    have efOK1 := OK.mono (Nat.le_trans hp1.next (Nat.le_succ _)) _ efOK
    simp only [AV.OK] at efOK1
    have hext2 : ∀ b, b < st.H.next → ι2 b = ι b := fun b hb => (hp1.trans hp2).ext b hb
    obtain ⟨⟨fn, fbody, hf, hb⟩, ι3, w3, fr, hp3, hv3, hst3, hleave, _⟩ := zm4 hS hp2.sim hcall (fun x hx => by
      rcases List.mem_append.1 hx with hx | hx
      · rcases List.mem_append.1 hx with hx | hx
        · exact (zar ..).1 efOK1.1 x hx
        · rw [List.mem_singleton.1 hx]; simp [AV.OK]
      · exact (zar ..).1 efOK1.2 x hx) (F c ⟨a.tmps, mark ++ a.defers⟩ (.inRangeFunc w1.heap.size :: k) :: cs)
    have ef2 : a.eval f = (AV.func g first cap).conc ι2 := by rw [ef]; exact (zeu hext2 _ efOK).symm
    have h2 : (do let d ← resolve a.eval { callee := .value f, args := #[.const (.func (.yield w1.heap.size) #[] #[])], argTypes := #[] } 0; invoke d.target d.args : Sem Next).run P
        W2 = .ok (.enter g ((first ++ [AV.yieldf H.next] ++ cap).map (AV.conc ι2)).toArray) W2 := by
      simp only [resolve, ef2, AV.conc, Deferred.ofValue, pure_bind, invoke, zaz]
      rw [zlw hN hf hb]
      congr 2
      apply Array.ext'
      simp [Act.eval, AV.conc, hl]
    have hl3 : (ι3 H.next).1 = w1.heap.size := by rw [hp3.ext H.next (by simp)]; exact hl
    split at h
    · rename_i st1 pend fn1 tmps1 params1 assign1 body1 d1 hloop
      split at h
      · cases h
      · rename_i hbusy
        obtain ⟨tv1, hgt, hg1, hg2⟩ := zgg hp3.sim hloop
        have hp4 := Post.drop (lo := 0) hp3.sim hloop { w3 with heap := w3.heap.setIfInBounds (ι3 H.next).1 (.loop { state := .exhausted, pending := pend, fn := fn1, tmps := tv1, params := params1.toArray, assign := assign1, body := body1, defers := (ι3 d1).1 }) }
          (Nat.zero_le _) ⟨rfl, rfl, rfl, by simp⟩ (fun r hr => Array.getElem?_setIfInBounds_ne (fun q => hr q.symm))
        have hend : (Instr.endLoop w1.heap.size).run P w3 = .ok pend { w3 with heap := w3.heap.setIfInBounds (ι3 H.next).1 (.loop { state := .exhausted, pending := pend, fn := fn1, tmps := tv1, params := params1.toArray, assign := assign1, body := body1, defers := (ι3 d1).1 }) } := by
          rw [← hl3]
          have hb' : (st1 == LoopState.busy) = false := by cases st1 <;> first | rfl | exact absurd rfl hbusy
          simp only [Instr.endLoop, Sem.run_bind, hg1, Result.andThen_ok, hb', Bool.false_eq_true, if_false, Sem.run_pure]
          rw [zcr _ _ _ hg2 (by simp)]
          rfl
        generalize hWf : ({ w3 with heap := w3.heap.setIfInBounds (ι3 H.next).1 (.loop { state := .exhausted, pending := pend, fn := fn1, tmps := tv1, params := params1.toArray, assign := assign1, body := body1, defers := (ι3 d1).1 }) } : World) = Wf at hp4 hend
        clear hWf
        have hsteps : Steps P (lone (F c a (.code (.rangeFunc f params assign body) :: k)) cs w) (lone (F c ⟨a.tmps, mark ++ a.defers⟩ ((pend.map Item.code).toList ++ k)) cs Wf) :=
          by
            have q1 := zum (P := P) (k := k) (cs := cs) henter h2
            have q2 := zy9 (d := F c ⟨a.tmps, mark ++ a.defers⟩ (.inRangeFunc w1.heap.size :: k)) (ds := cs) hleave
            rw [zqf] at q2
            have q3 := yaas (P := P) (c := c) (a := ⟨a.tmps, mark ++ a.defers⟩) (k := k) (cs := cs) hend
            exact Steps.head q1 (hst3.trans (Steps.head q2 (.one q3)))
        have hp := ((hp1.trans hp2).trans hp3).trans hp4
        have hpc := hp.code (pin := pin) s hpin
        have hAf : ARel w0 base ι3 (H'.kill H.next).next st.env marks ⟨a.tmps, mark ++ a.defers⟩ := (hA1.ext hp2.ext hp2.next).ext hp3.ext hp3.next
        cases pend with
        | none =>
          simp only at h
          cases h
          exact ⟨ι3, _, _, hpc, hAf, hsteps⟩
        | some j =>
          cases j <;> simp only at h <;> try (cases h; done)
          · cases h; exact ⟨ι3, _, _, hpc, hAf, k, rfl, hsteps⟩
          · cases h; exact ⟨ι3, _, _, hpc, hAf, k, hsteps⟩
    · cases h
  · cases h
theorem Reach.inLoop [E : Env] {x : Code} {c : RC} {a a' : Act} {k : List Item} {cs : List Frame} {e : Ex} {w' : World} (h : Reach P (lone (F c a (.code (.loop x) :: k)) cs w) c k cs e a' w') : Reach P (lone (F c a (.inLoop x :: k)) cs w) c k cs e a' w' := by
  have key : ∀ (a2 : Act) (k2 : List Item), k2 ≠ .code (.loop x) :: k → Steps P (lone (F c a (.code (.loop x) :: k)) cs w) (lone (F c a2 k2) cs w') → Steps P (lone (F c a (.inLoop x :: k)) cs w) (lone (F c a2 k2) cs w') := by
    intro a2 k2 hne hs
    obtain ⟨n, hn⟩ := hs
    cases n with
    | zero =>
      simp only [runN, Stepped.next.injEq] at hn
      have := congrArg (fun m : Machine => (m.gs[0]?).map (·.frame.todo)) hn
      simp [lone, F] at this
      exact absurd this.symm hne
    | succ n =>
      rw [runN, zry] at hn
      exact Steps.head yafo ⟨n, hn⟩
  cases e with
  | normal => exact key a' k (fun q => by have := congrArg List.length q; simp at this) h
  | exit id => obtain ⟨k1, hk, hs⟩ := h; exact ⟨k1, hk, key a' _ (by simp) hs⟩
  | ret => obtain ⟨k1, hs⟩ := h; exact ⟨k1, key a' _ (by simp) hs⟩
theorem zd9 [E : Env] (s : Sim P w0 base ι H w) {env : EV} {marks : List Nat} {a : Act} (hA : ARel w0 base ι H.next env marks a) (hp : pin ≤ H.next) (cx : Ctx) (key : Nat) :
    ∃ ι', CPost P w0 base pin ι H w ι' (zuz cx key pin ⟨env, marks, H⟩).H w ∧ ARel w0 base ι' (zuz cx key pin ⟨env, marks, H⟩).H.next (zuz cx key pin ⟨env, marks, H⟩).env (zuz cx key pin ⟨env, marks, H⟩).marks a := by
  unfold zuz
  cases E.live cx.fn key with
  | none => exact ⟨ι, CPost.refl s hp, hA⟩
  | some ks => exact zn1 s (hA.lim ks) hp
theorem zpx [E : Env] {n : Nat} {env : EV} {marks : List Nat} {a : Act} (hA : ARel w0 base ι n env marks a) (fn : FuncId) (id : Nat) : ARel w0 base ι n (limR fn id env) marks a := by
  unfold limR
  cases E.live fn (3 * id) with
  | none => exact hA
  | some ks => exact hA.lim ks
theorem zwt [E : Env] (hN : Names P) (hm : P.follows .mixedOrders = true) (hS : zks P ex) : zks P (zcb P ex) := by
  intro cx pin code st r h w0 base ι w a c s hA hC hpin k cs
  obtain ⟨e, st'⟩ := r
  simp only
  cases code with
  | skip => simp only [zcb] at h; cases h; exact ⟨ι, w, a, CPost.refl s hpin, hA, .one yap3⟩
  | ret =>
    simp only [zcb] at h; cases h
    obtain ⟨ι2, p2, hA2⟩ := zd9 s hA hpin cx 3000002
    exact ⟨ι2, w, a, p2, hA2, k, Steps.refl P _⟩
  | exit id => simp only [zcb] at h; cases h; exact ⟨ι, w, a, CPost.refl s hpin, hA, k, rfl, Steps.refl P _⟩
  | region id ops draw =>
    simp only [zcb] at h
    cases draw with
    | true =>
      simp only [if_true] at h
      split at h
      · rename_i env H hd
        cases h
        obtain ⟨ι', w', a', h1, h2, h3⟩ := yaal hN hm hS s hd hA (Nat.zero_le _) c k cs
        have p1 := h1.code s hpin
        obtain ⟨ι2, p2, hA2⟩ := zd9 p1.sim (zpx h2 cx.fn id) p1.hpin cx (3 * (id + 1000000))
        exact ⟨ι2, w', a', p1.trans p2, hA2, h3⟩
      · cases h
    | false =>
      simp only [Bool.false_eq_true, if_false] at h
      split at h
      · rename_i env H hd
        cases h
        obtain ⟨ι', w', a', h1, h2, h3⟩ := ze7 hN hS ops st.marks c k cs ops.toList 0 st.env st.H env H ι w a (fun j => by simp) hd s hA
        have p1 := h1.code s hpin
        obtain ⟨ι2, p2, hA2⟩ := zd9 p1.sim (zpx h2 cx.fn id) p1.hpin cx (3 * (id + 1000000))
        refine ⟨ι2, w', a', p1.trans p2, hA2, ?_⟩
        refine Steps.head yafp ?_
        rw [List.range_eq_range', ← Array.length_toList]
        exact h3.trans (.one zl0)
      · cases h
  | seq x y =>
    simp only [zcb] at h
    split at h
    · rename_i st1 h1
      obtain ⟨ι1, w1, a1, p1, hA1, r1⟩ := hS _ _ _ _ _ h1 w0 base ι w a c s hA hC hpin (.code y :: k) cs
      obtain ⟨ι2, w2, a2, p2, hA2, r2⟩ := hS _ _ _ _ _ h w0 base ι1 w1 a1 c p1.sim hA1 (hC.ext p1.ext (Nat.le_refl _)) p1.hpin k cs
      exact ⟨ι2, w2, a2, p1.trans p2, hA2, r2.of_steps (Steps.head yafq r1)⟩
    · rename_i hne
      obtain ⟨ι1, w1, a1, p1, hA1, r1⟩ := hS _ _ _ _ _ h w0 base ι w a c s hA hC hpin (.code y :: k) cs
      refine ⟨ι1, w1, a1, p1, hA1, ?_⟩
      cases e with
      | normal => exact absurd h (hne st')
      | exit id => obtain ⟨k1, hk, hs⟩ := r1; exact ⟨k1, hk, Steps.head yafq hs⟩
      | ret => obtain ⟨k1, hs⟩ := r1; exact ⟨k1, Steps.head yafq hs⟩
  | cond o x y =>
    simp only [zcb] at h
    split at h
    · rename_i t ht
      have hev := (hA.ev s.gl o _ ht).1
      split at h
      · rename_i st1 h1
        cases h
        obtain ⟨ι1, w1, a1, p1, hA1, r1⟩ := hS _ _ _ _ _ h1 w0 base ι w a c s hA hC hpin k cs
        obtain ⟨ι2, p2, hA2⟩ := zd9 p1.sim hA1 p1.hpin cx (condKey o)
        exact ⟨ι2, w1, a1, p1.trans p2, hA2, Steps.head (yafn hev) r1⟩
      · rename_i hne
        obtain ⟨ι1, w1, a1, p1, hA1, r1⟩ := hS _ _ _ _ _ h w0 base ι w a c s hA hC hpin k cs
        exact ⟨ι1, w1, a1, p1, hA1, r1.of_steps (.one (yafn hev))⟩
    · cases h
  | block id x =>
    simp only [zcb] at h
    split at h
    · rename_i st1 h1
      cases h
      obtain ⟨ι1, w1, a1, p1, hA1, r1⟩ := hS _ _ _ _ _ h1 w0 base ι w a c s hA hC hpin (.inBlock id :: k) cs
      obtain ⟨ι2, p2, hA2⟩ := zd9 p1.sim hA1 p1.hpin cx (3 * id + 2)
      exact ⟨ι2, w1, a1, p1.trans p2, hA2, Steps.head zmr (Steps.trans r1 (.one yaat))⟩
    · rename_i id' st1 h1
      obtain ⟨ι1, w1, a1, p1, hA1, k1, hk, hs⟩ := hS _ _ _ _ _ h1 w0 base ι w a c s hA hC hpin (.inBlock id :: k) cs
      split at h
      · rename_i e1
        cases h
        subst e1
        obtain ⟨ι2, p2, hA2⟩ := zd9 p1.sim hA1 p1.hpin cx (3 * id' + 2)
        have : exitTo id' k1 = some k := by rw [hk]; simp [exitTo]
        exact ⟨ι2, w1, a1, p1.trans p2, hA2, Steps.head zmr (hs.trans (.one (yap0 this)))⟩
      · rename_i e1
        cases h
        refine ⟨ι1, w1, a1, p1, hA1, k1, ?_, Steps.head zmr hs⟩
        rw [hk]
        have : (id == id') = false := by simp; exact fun q => e1 q.symm
        simp [exitTo, this]
    · rename_i hne1 hne2
      obtain ⟨ι1, w1, a1, p1, hA1, r1⟩ := hS _ _ _ _ _ h w0 base ι w a c s hA hC hpin (.inBlock id :: k) cs
      refine ⟨ι1, w1, a1, p1, hA1, ?_⟩
      cases e with
      | normal => exact absurd h (hne1 st')
      | exit id' => exact absurd h (hne2 id' st')
      | ret => obtain ⟨k1, hs⟩ := r1; exact ⟨k1, Steps.head zmr hs⟩
  | loop x =>
    simp only [zcb] at h
    split at h
    · rename_i st1 h1
      obtain ⟨ι1, w1, a1, p1, hA1, r1⟩ := hS _ _ _ _ _ h1 w0 base ι w a c s hA hC hpin (.inLoop x :: k) cs
      obtain ⟨ι2, p2, hA2⟩ := zn1 p1.sim hA1 p1.hpin
      have p12 := p1.trans p2
      obtain ⟨ι3, w3, a3, p3, hA3, r3⟩ := hS _ _ _ _ _ h w0 base ι2 w1 a1 c p12.sim hA2 (hC.ext p12.ext (Nat.le_refl _)) p12.hpin k cs
      exact ⟨ι3, w3, a3, p12.trans p3, hA3, r3.inLoop.of_steps (Steps.head zry r1)⟩
    · rename_i hne
      obtain ⟨ι1, w1, a1, p1, hA1, r1⟩ := hS _ _ _ _ _ h w0 base ι w a c s hA hC hpin (.inLoop x :: k) cs
      refine ⟨ι1, w1, a1, p1, hA1, ?_⟩
      cases e with
      | normal => exact absurd h (hne st')
      | exit id => obtain ⟨k1, hk, hs⟩ := r1; exact ⟨k1, hk, Steps.head zry hs⟩
      | ret => obtain ⟨k1, hs⟩ := r1; exact ⟨k1, Steps.head zry hs⟩
  | rangeFunc f params assign body => exact zn8 hN hS h s hA hC hpin k cs
  | _ => simp [zcb] at h
theorem yait [E : Env] (hN : Names P) (hm : P.follows .mixedOrders = true) : zks P (om P) := by
  intro cx pin c st r h
  have h' : OM P cx pin c st r := by
    unfold om at h
    split at h
    · rename_i hx
      cases h
      exact hx.choose_spec
    · cases h
  exact h' (fun cx pin c st r => yabd P cx pin c st r) fun ex hex cx pin c st r hr => zwt hN hm hex cx pin c st r hr
theorem yafc [E : Env] (hN : Names P) (hm : P.follows .mixedOrders = true) {f : FuncId} {args : List AV} {v : AV} {H' : Heap} (h : zas P (om P) f args Heap.empty = some (v, H')) (w : World) (gl : zlg w w.heap.size) (hargs : ∀ a ∈ args, a.OK w w.heap.size 0) (ι : Inj) :
    Calls P f (args.map (AV.conc ι)).toArray w fun e w' => (∃ ι', e = .returned (v.conc ι')) ∧ Below w.heap.size w w' := by
  intro cs
  have s : Sim P w w.heap.size ι Heap.empty w :=
    { below := Below.refl _ _, hb := Nat.le_refl _, gl := gl, inj := (fun b b' x x' hx => by rw [Heap.get_empty] at hx; cases hx), lt := (fun b x hx => by rw [Heap.get_empty] at hx; cases hx),
      lo := (fun b x hx => by rw [Heap.get_empty] at hx; cases hx), ok := (fun b x hx => by rw [Heap.get_empty] at hx; cases hx), rel := (fun b x hx => by rw [Heap.get_empty] at hx; cases hx) }
  obtain ⟨_, _, ι', w', fr, h1, h2, h3, h4, h5⟩ := zk8 (yait hN hm) s h hargs cs
  exact ⟨.returned (v.conc ι'), w', fr, ⟨⟨ι', rfl⟩, h1.sim.below⟩, h3, h5, h4⟩
end
end Go.Ab
