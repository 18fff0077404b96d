/- The abstract interpreter is sound, 10: calls and rounds, given that the interpreter of the bodies is. Conditions: none. -/
import Derived.Test.YtlbkcdfllglddaaAb12
set_option linter.unusedSimpArgs false
set_option linter.unusedVariables false
namespace Go.Ab
open Go Go.RowKit

def markOf (ι : Inj) (b : Nat) : Deferred := { target := .collected (ι b).1, args := #[] }
/-- a real frame's variable part is as the abstract one tells -/
structure ARel (w0 : World) (base lo : Nat) (ι : Inj) (n : Nat) (env : List AV) (marks : List Nat) (a : Act) : Prop where
  tmps : a.tmps = (env.map (AV.conc ι)).toArray
  ok : ∀ v ∈ env, v.OK w0 base n
  defers : a.defers = marks.map (markOf ι)
  marks : ∀ b ∈ marks, lo ≤ b ∧ b < n
structure CRel (ι : Inj) (n : Nat) (cx : Ctx) (c : RC) : Prop where
  fn : c.fn = cx.fn
  kind : c.kind = .normal
  rnd : (cx.rnd = none ∧ c.rnd = none) ∨ ∃ l, cx.rnd = some l ∧ l < n ∧ c.rnd = some (ι l).1

def Reach (P : Program) (m : Machine) (c : RC) (k : List Item) (cs : List Frame) : Ex → Act → World → Prop
  | .normal, a, w => Steps P m (lone (F c a k) cs w)
  | .exit id, a, w => ∃ k1, exitTo id k1 = exitTo id k ∧ Steps P m (lone (F c a (.code (.exit id) :: k1)) cs w)
  | .ret, a, w => ∃ k1, Steps P m (lone (F c a (.code .ret :: k1)) cs w)
  | .panic _, _, _ => False
theorem Reach.of_steps {P : Program} {m m1 : Machine} {c : RC} {k : List Item} {cs : List Frame} {e : Ex} {a : Act} {w : World} (h : Steps P m m1) (h' : Reach P m1 c k cs e a w) : Reach P m c k cs e a w := by
  cases e with
  | normal => exact h.trans h'
  | exit id => obtain ⟨k1, h1, h2⟩ := h'; exact ⟨k1, h1, h.trans h2⟩
  | ret => obtain ⟨k1, h2⟩ := h'; exact ⟨k1, h.trans h2⟩
  | panic v => exact h'

def Sound [E : Env] (P : Program) (w0 : World) (base : Nat) (ex : ExF) : Prop :=
  ∀ cx lo code st e st', ex cx lo code st = some (e, st') → ∀ ι w a c, Sim P w0 base ι st.H w → ARel w0 base lo ι st.H.next st.env st.marks a → CRel ι st.H.next cx c → lo ≤ st.H.next →
    ∀ k cs, ∃ ι' w' a', Post P w0 base lo ι st.H w ι' st'.H w' ∧ ARel w0 base lo ι' st'.H.next st'.env st'.marks a' ∧ Reach P (lone (F c a (.code code :: k)) cs w) c k cs e a' w'

section
variable {P : Program} {w0 : World} {base lo : Nat} {ι ι1 ι2 : Inj} {H H1 H2 : Heap} {w w1 w2 : World} {ex : ExF}

theorem ARel.ext [E : Env] {n n' : Nat} {env : List AV} {marks : List Nat} {a : Act} (h : ARel w0 base lo ι n env marks a) (he : ∀ b, b < n → ι1 b = ι b) (hn : n ≤ n') : ARel w0 base lo ι1 n' env marks a :=
  ⟨by rw [h.tmps, map_conc_ext he h.ok], fun v hv => OK.mono hn v (h.ok v hv), by
    rw [h.defers]; exact List.map_congr_left fun b hb => by simp [markOf, he b (h.marks b hb).2], fun b hb => ⟨(h.marks b hb).1, Nat.lt_of_lt_of_le (h.marks b hb).2 hn⟩⟩
theorem CRel.ext {n n' : Nat} {cx : Ctx} {c : RC} (h : CRel ι n cx c) (he : ∀ b, b < n → ι1 b = ι b) (hn : n ≤ n') : CRel ι1 n' cx c :=
  ⟨h.fn, h.kind, h.rnd.imp id fun ⟨l, h1, h2, h3⟩ => ⟨l, h1, Nat.lt_of_lt_of_le h2 hn, by rw [h3, he l h2]⟩⟩

theorem undef_conc (ι : Inj) : undefA.conc ι = undef := by simp [undefA, AV.conc, AV.concL, undef]
theorem ARel.ev [E : Env] {n : Nat} {env : List AV} {marks : List Nat} {a : Act} (h : ARel w0 base lo ι n env marks a) (gl : GlobOK w0 base) (x : Operand) : Ev w0 base n ι env a.eval x := by
  intro v hv
  cases x with
  | tmp t =>
    simp only [evalO, Option.some.injEq] at hv
    subst hv
    refine ⟨?_, ?_⟩
    · simp only [Act.eval, h.tmps]
      cases ht : env[t]? with
      | none => simp [List.getD, ht, undef_conc]
      | some u => simp [List.getD, ht]
    · cases ht : env[t]? with
      | none => simp [List.getD, ht, undefA, AV.OK, AV.OKL]
      | some u => simpa [List.getD, ht] using h.ok u (List.mem_of_getElem? ht)
  | const v' => exact ⟨(ofVal_conc ι hv).symm, OK.mono (Nat.zero_le _) v (ofVal_OK hv)⟩
  | global g =>
    obtain ⟨h1, h2⟩ := gl g v hv
    exact ⟨(h2 ι).symm, OK.mono (Nat.zero_le _) v h1⟩
  | func f => simp only [evalO, Option.some.injEq] at hv; subst hv; simp [Act.eval, AV.conc, AV.concL, AV.OK, AV.OKL]
theorem ARel.put {n : Nat} {env : List AV} {marks : List Nat} {a : Act} (h : ARel w0 base lo ι n env marks a) (d : Option Tmp) {v : AV} (hv : v.OK w0 base n) : ARel w0 base lo ι n (putE env d v) marks (a.put d (v.conc ι)) := by
  cases d with
  | none => exact h
  | some d =>
    refine ⟨?_, fun u hu => ?_, h.defers, h.marks⟩
    · simp [Act.put, putE, h.tmps, List.map_set]
    · simp only [putE] at hu
      rcases List.mem_or_eq_of_mem_set hu with hu | rfl
      · exact h.ok u hu
      · exact hv

/-- an object goes -/
theorem Post.drop [E : Env] (s : Sim P w0 base ι H w) {b : Nat} {x : Blk} (hx : H.get b = some x) (w1 : World) (hlo : lo ≤ b)
    (hw : w1.os = w.os ∧ w1.tape = w.tape ∧ w1.output = w.output ∧ w1.heap.size = w.heap.size) (hother : ∀ r, r ≠ (ι b).1 → w1.heap[r]? = w.heap[r]?) : Post P w0 base lo ι H w ι (H.kill b) w1 := by
  have hget : ∀ c z, (H.kill b).get c = some z → c ≠ b ∧ H.get c = some z := fun c z h => by
    rw [Heap.get_kill] at h
    by_cases e : c = b
    · simp [e] at h
    · rw [if_neg e] at h; exact ⟨e, h⟩
  refine ⟨⟨?_, s.hb, s.gl, ?_, ?_, ?_, ?_, ?_⟩, fun _ _ => rfl, Nat.le_refl _, ?_, ?_, by omega, ?_, ?_⟩
  · refine s.below.trans ⟨hw.1, hw.2.1, hw.2.2.1, by omega, fun k hk => hother k ?_⟩
    have := s.lo b x hx; omega
  · intro c c' z z' h h' e; exact s.inj c c' z z' (hget c z h).2 (hget c' z' h').2 e
  · intro c z h; exact s.lt c z (hget c z h).2
  · intro c z h; exact s.lo c z (hget c z h).2
  · intro c z h; exact s.ok c z (hget c z h).2
  · intro c z h
    obtain ⟨hne, hz⟩ := hget c z h
    rw [hother _ (fun e => hne (s.inj c b z x hz hx e))]
    exact s.rel c z hz
  · intro c hc; rw [Heap.get_kill, if_neg (by omega)]
  · intro c z hc h; exact ⟨z, (hget c z h).2⟩
  · intro r hr hne; exact hother r fun e => hne b x hx hlo e.symm
  · intro c z h hc; have := s.lt c z (hget c z h).2; omega

/-- a call that touched nothing old: the old heap still tells the truth -/
theorem Post.restore [E : Env] {ι' : Inj} {H' : Heap} {w' : World} (s : Sim P w0 base ι H w) (p : Post P w0 base H.next ι H w ι' H' w') (hlo : lo ≤ H.next) : Post P w0 base lo ι H w ι' H w' where
  sim := by
    have hk : ∀ b x, H.get b = some x → H'.get b = some x := fun b x h => by rw [p.keep b (s.lt b x h)]; exact h
    have he : ∀ b x, H.get b = some x → ι' b = ι b := fun b x h => p.ext b (s.lt b x h)
    exact { below := p.sim.below, hb := s.hb, gl := s.gl, inj := fun b b' x x' h h' => p.sim.inj b b' x x' (hk b x h) (hk b' x' h'), lt := s.lt,
            lo := fun b x h => p.sim.lo b x (hk b x h), ok := s.ok, rel := fun b x h => p.sim.rel b x (hk b x h) }
  ext := p.ext
  next := Nat.le_refl _
  keep := fun _ _ => rfl
  alive := fun b x _ h => ⟨x, h⟩
  size := p.size
  frame := fun r hr _ => p.frame r hr fun b x h hb => absurd (s.lt b x h) (by omega)
  newr := fun b x h hb => absurd (s.lt b x h) (by omega)

theorem marks_sound [E : Env] : ∀ (marks : List Nat) (H H' : Heap) (w : World) (fr : Frame) (cs : List Frame), dropMarks H marks = some H' → Sim P w0 base ι H w → (∀ b ∈ marks, lo ≤ b) → fr.mode = .returning → fr.defers = marks.map (markOf ι) →
    ∃ w', Steps P (lone fr cs w) (lone { fr with defers := [] } cs w') ∧ Post P w0 base lo ι H w ι H' w'
  | [], H, H', w, fr, cs, h, s, _, hm, hd => by
    simp only [dropMarks] at h; cases h
    refine ⟨w, ?_, Post.refl s⟩
    have : ({ fr with defers := [] } : Frame) = fr := by
      have hd' : fr.defers = [] := by simpa using hd
      cases fr; simp only at hd' ⊢; rw [hd']
    rw [this]; exact Steps.refl P _
  | b :: bs, H, H', w, fr, cs, h, s, hl, hm, hd => by
    simp only [dropMarks] at h
    split at h
    · rename_i hb
      have hr := s.rel b _ hb
      simp only [BlkRel] at hr
      have htake : (Instr.takeDeferred (ι b).1).run P w = .ok [] { w with heap := w.heap.setIfInBounds (ι b).1 (.deferred none) } := by
        simp only [Instr.takeDeferred, Sem.run_bind, getObj, Sem.run, hr, Result.andThen_ok]
        rw [run_setObj _ _ _ hr (by simp)]
        rfl
      have hpost := Post.drop (lo := lo) s hb { w with heap := w.heap.setIfInBounds (ι b).1 (.deferred none) } (hl b (by simp)) ⟨rfl, rfl, rfl, by simp⟩ (fun r hr' => Array.getElem?_setIfInBounds_ne (fun e => hr' e.symm))
      have hst := st_mark (P := P) (cs := cs) hm (b := (ι b).1) (xs := #[]) (ds := bs.map (markOf ι)) (by rw [hd]; rfl) htake
      obtain ⟨w', h1, h2⟩ := marks_sound bs (H.kill b) H' _ { fr with defers := bs.map (markOf ι) } cs h hpost.sim (fun c hc => hl c (by simp [hc])) hm rfl
      exact ⟨w', Steps.head hst h1, hpost.trans h2⟩
    · cases h

def resSem (tmps : Array Value) (r : ResultVar) : Sem Value :=
  match r with | .tmp t => pure (tmps.getD t undef) | .cell a t => do loadVar t (← asAddr (tmps.getD a undef))
theorem results_eq (fn : Func) (tmps : Array Value) : results fn tmps = (do let vs ← fn.results.mapM (resSem tmps); pure (if h : vs.size = 1 then vs[0] else .tuple vs)) := by
  unfold results
  have e : (fun r : ResultVar => (match r with | .tmp t => pure (tmps.getD t undef) | .cell a t => do loadVar t (← asAddr (tmps.getD a undef)) : Sem Value)) = resSem tmps := rfl
  rw [← e]
  rfl
theorem resultsA_sound [E : Env] (s : Sim P w0 base ι H w) {env : List AV} {tmps : Array Value} (ht : tmps = (env.map (AV.conc ι)).toArray) (hok : ∀ v ∈ env, v.OK w0 base H.next) : ∀ (rs : List ResultVar) (vs : List AV), resultsA P H env rs = some vs →
    (rs.mapM (resSem tmps)).run P w = .ok (vs.map (AV.conc ι)) w ∧ ∀ v ∈ vs, v.OK w0 base H.next
  | [], vs, h => by simp only [resultsA] at h; cases h; exact ⟨by simp, by simp⟩
  | r :: rs, vs, h => by
    have hget : ∀ t, tmps.getD t undef = (env.getD t undefA).conc ι ∧ (env.getD t undefA).OK w0 base H.next := fun t => by
      subst ht
      cases ht : env[t]? with
      | none => simp [List.getD, ht, undef_conc]; simp [undefA, AV.OK, AV.OKL]
      | some u => simp [List.getD, ht]; exact hok u (List.mem_of_getElem? ht)
    cases r with
    | tmp t =>
      simp only [resultsA] at h
      split at h
      · rename_i l hl
        cases h
        obtain ⟨h1, h2⟩ := resultsA_sound s ht hok rs l hl
        refine ⟨by simp only [List.mapM_cons, Sem.run_bind, resSem, Sem.run_pure, Result.andThen_ok, h1, (hget t).1, List.map_cons], fun v hv => ?_⟩
        rcases List.mem_cons.1 hv with rfl | hv
        · exact (hget t).2
        · exact h2 v hv
      · cases h
    | cell a t =>
      simp only [resultsA] at h
      split at h
      · rename_i v l hv hl
        cases h
        obtain ⟨h1, h2⟩ := resultsA_sound s ht hok rs l hl
        obtain ⟨A, hA, h3, h4⟩ := loadA_sound s hv (hget a).2
        refine ⟨by simp only [List.mapM_cons, Sem.run_bind, resSem, Sem.run_pure, (hget a).1, hA, asAddr, pure_bind, h3, Result.andThen_ok, h1, List.map_cons], fun u hu => ?_⟩
        rcases List.mem_cons.1 hu with rfl | hu
        · exact h4
        · exact h2 u hu
      · cases h

theorem tupA_sound [E : Env] {fn : Func} {tmps : Array Value} {vs : List AV} {n : Nat}
    (h : (fn.results.toList.mapM (resSem tmps)).run P w = .ok (vs.map (AV.conc ι)) w) (hok : ∀ v ∈ vs, v.OK w0 base n) :
    (results fn tmps).run P w = .ok ((tupA vs).conc ι) w ∧ (tupA vs).OK w0 base n := by
  have hm : (fn.results.mapM (resSem tmps)).run P w = .ok (vs.map (AV.conc ι)).toArray w := by
    rw [Array.mapM_eq_mapM_toList, Sem.run_map, h]; rfl
  constructor
  · simp only [results_eq, Sem.run_bind, hm, Result.andThen_ok, Sem.run_pure]
    congr 1
    rcases vs with _ | ⟨v, _ | ⟨u, vs⟩⟩
    · simp [tupA, AV.conc, AV.concL]
    · simp [tupA]
    · simp [tupA, AV.conc, concL_eq]
  · rcases vs with _ | ⟨v, _ | ⟨u, vs⟩⟩
    · simp [tupA, AV.OK, AV.OKL]
    · exact hok v (by simp)
    · simp only [tupA, AV.OK]; exact (OKL_iff ..).2 hok

theorem rel_lt {x : Blk} {cap r : Nat} (h : BlkRel P ι cap w.heap[r]? x) : r < w.heap.size := by
  have : ∃ o, w.heap[r]? = some o := by
    cases x with
    | cells t cs => obtain ⟨c, ho, _⟩ := h; exact ⟨_, ho⟩
    | _ => exact ⟨_, h⟩
  obtain ⟨o, ho⟩ := this
  exact (Array.getElem?_eq_some_iff.1 ho).1
mutual
/-- what is read-only may be named from a later world -/
theorem OK.here {w0 w : World} {base : Nat} (hb : base ≤ w0.heap.size) (hw : Below base w0 w) : ∀ v : AV, v.OK w0 base 0 → v.OK w w.heap.size 0
  | .bool _, _ | .int _ _, _ | .str _, _ | .nilp, _ | .nilf, _ | .nili, _ | .map none, _ => trivial
  | .ptr _ _, k | .sl _ _ _ _, k | .map (some _), k | .yieldf _, k => by simp [AV.OK] at k
  | .rptr a cs, k => by
    simp only [AV.OK] at k ⊢
    have hs := hw.size
    exact ⟨by omega, fun ι j c hc => by rw [hw.cell (by rw [add_block]; exact k.1)]; exact k.2.1 ι j c hc, OKL.here hb hw cs k.2.2⟩
  | .rsl none _ _ _, k => by simp only [AV.OK] at k ⊢; exact k
  | .rsl (some a) _ _ l, k => by
    simp only [AV.OK] at k ⊢
    have hs := hw.size
    refine ⟨k.1, fun ι i e he => ?_, OKL.here hb hw l k.2.2⟩
    obtain ⟨k1, k2, k3⟩ := k.2.1 ι i e he
    exact ⟨by omega, k2, fun j c hc => by rw [hw.cell (by rw [add_block, add_block]; exact k1)]; exact k3 j c hc⟩
  | .func _ a b, k => by simp only [AV.OK] at k ⊢; exact ⟨OKL.here hb hw a k.1, OKL.here hb hw b k.2⟩
  | .iface _ v, k => by simp only [AV.OK] at k ⊢; exact OK.here hb hw v k
  | .agg l, k | .tup l, k => by simp only [AV.OK] at k ⊢; exact OKL.here hb hw l k
theorem OKL.here {w0 w : World} {base : Nat} (hb : base ≤ w0.heap.size) (hw : Below base w0 w) : ∀ l : List AV, AV.OKL w0 base 0 l → AV.OKL w w.heap.size 0 l
  | [], _ => trivial
  | v :: vs, k => by simp only [AV.OKL] at k ⊢; exact ⟨OK.here hb hw v k.1, OKL.here hb hw vs k.2⟩
end

/-- the summaries are true -/
def SummOK [E : Env] (P : Program) : Prop := ∀ f args v, E.summ f args = some v → AV.rfL args = true →
  (∀ w0 base, AV.OKL w0 base 0 args → v.OK w0 base 0) ∧
  ∀ w ι, GlobOK w w.heap.size → AV.OKL w w.heap.size 0 args → Calls P f (args.map (AV.conc ι)).toArray w fun e w' => e = .returned (v.conc ι) ∧ Below w.heap.size w w'

/-- a Go function is called -/
theorem callA_sound [E : Env] (hQ : SummOK P) (hS : Sound P w0 base ex) (s : Sim P w0 base ι H w) {f : FuncId} {args : List AV} {v : AV} {H' : Heap} (h : callA P ex lo f args H = some (v, H')) (hargs : ∀ a ∈ args, a.OK w0 base H.next) (hlo : lo ≤ H.next) (cs : List Frame) :
    ∃ ι' w' fr, Post P w0 base lo ι H w ι' H' w' ∧ v.OK w0 base H'.next ∧ Steps P (lone (Frame.enter P f (args.map (AV.conc ι)).toArray .normal) cs w) (lone fr cs w') ∧ fr.leaving P w' (.returned (v.conc ι')) ∧ fr.fn = f := by
  unfold callA at h
  cases hf : P.funcs[f]? with
  | none => simp [hf] at h
  | some fn =>
  simp only [hf] at h
  cases hb : fn.body with
  | none => simp [hb] at h
  | some c =>
  simp only [hb] at h
  cases hsu : E.summ f args with
  | some v1 =>
    simp only [hsu] at h
    split at h
    · rename_i hrf
      cases h
      obtain ⟨q1, q2⟩ := hQ f args v hsu hrf
      have hargs0 := OKL.rf args hrf ((OKL_iff w0 base H.next args).2 hargs)
      obtain ⟨e, w', fr, ⟨rfl, h2⟩, h3, h4, h5⟩ := q2 w ι (fun g u hu => ⟨OK.here s.hb s.below u (s.gl g u hu).1, (s.gl g u hu).2⟩) (OKL.here s.hb s.below args hargs0) cs
      refine ⟨ι, w', fr, ?_, OK.mono (Nat.zero_le _) v (q1 w0 base hargs0), h3, h5, h4⟩
      have hfr : ∀ r, r < w.heap.size → w'.heap[r]? = w.heap[r]? := h2.block
      exact
        { sim := { below := s.below.trans (h2.mono (Nat.le_trans s.hb s.below.size)), hb := s.hb, gl := s.gl, inj := s.inj, lt := s.lt, lo := s.lo, ok := s.ok,
                   rel := fun b x hx => by
                     have := s.rel b x hx
                     rw [hfr _ (rel_lt this)]; exact this }
          ext := fun _ _ => rfl, next := Nat.le_refl _, keep := fun _ _ => rfl, alive := fun b x _ hx => ⟨x, hx⟩, size := h2.size,
          frame := fun r hr _ => hfr r hr, newr := fun b x hx hb => absurd (s.lt b x hx) (by omega) }
    · cases h
  | none =>
  simp only [hsu] at h
  -- the body's run
  have hbody : ∀ st, (ex ⟨f, none⟩ (if AV.rfL args then H.next else lo) c ⟨args ++ List.replicate (fn.ntmps - args.length) undefA, [], H⟩ = some (.normal, st) ∨
      ex ⟨f, none⟩ (if AV.rfL args then H.next else lo) c ⟨args ++ List.replicate (fn.ntmps - args.length) undefA, [], H⟩ = some (.ret, st)) →
      ∀ H1 vs, dropMarks st.H st.marks = some H1 → resultsA P H1 st.env fn.results.toList = some vs →
      ∃ ι' w' fr, Post P w0 base (if AV.rfL args then H.next else lo) ι H w ι' H1 w' ∧ (tupA vs).OK w0 base H1.next ∧ Steps P (lone (Frame.enter P f (args.map (AV.conc ι)).toArray .normal) cs w) (lone fr cs w') ∧ fr.leaving P w' (.returned ((tupA vs).conc ι')) ∧ fr.fn = f := by
    intro st hst H1 vs hdm hres
    have hlo' : (if AV.rfL args then H.next else lo) ≤ H.next := by split <;> omega
    have henter : Frame.enter P f (args.map (AV.conc ι)).toArray .normal = F ⟨f, .normal, none⟩ ⟨(args.map (AV.conc ι)).toArray ++ Array.replicate (fn.ntmps - args.length) undef, []⟩ [.code c] := by
      simp [Frame.enter, F, hf, hb]
    have hA : ARel w0 base (if AV.rfL args then H.next else lo) ι H.next (args ++ List.replicate (fn.ntmps - args.length) undefA) [] ⟨(args.map (AV.conc ι)).toArray ++ Array.replicate (fn.ntmps - args.length) undef, []⟩ := by
      refine ⟨?_, fun u hu => ?_, rfl, by simp⟩
      · apply Array.ext'; simp [undef_conc]
      · rcases List.mem_append.1 hu with hu | hu
        · exact hargs u hu
        · rw [List.eq_of_mem_replicate hu]; simp [undefA, AV.OK, AV.OKL]
    have hC : CRel ι H.next ⟨f, none⟩ ⟨f, .normal, none⟩ := ⟨rfl, rfl, .inl ⟨rfl, rfl⟩⟩
    have key : ∃ ι' w' a' todo, Post P w0 base (if AV.rfL args then H.next else lo) ι H w ι' st.H w' ∧ ARel w0 base (if AV.rfL args then H.next else lo) ι' st.H.next st.env st.marks a' ∧
        Steps P (lone (Frame.enter P f (args.map (AV.conc ι)).toArray .normal) cs w) (lone { F ⟨f, .normal, none⟩ a' todo with mode := .returning } cs w') := by
      rw [henter]
      rcases hst with hst | hst
      · obtain ⟨ι', w', a', h1, h2, h3⟩ := hS _ _ _ _ _ _ hst ι w _ _ s hA hC hlo' [] cs
        exact ⟨ι', w', a', _, h1, h2, Steps.trans h3 (.one (st_end rfl))⟩
      · obtain ⟨ι', w', a', h1, h2, k1, h3⟩ := hS _ _ _ _ _ _ hst ι w _ _ s hA hC hlo' [] cs
        exact ⟨ι', w', a', _, h1, h2, Steps.trans h3 (.one (st_ret rfl))⟩
    obtain ⟨ι', w', a', todo, h1, h2, h3⟩ := key
    obtain ⟨w'', h4, h5⟩ := marks_sound (lo := if AV.rfL args then H.next else lo) st.marks st.H H1 w' { F ⟨f, .normal, none⟩ a' todo with mode := .returning } cs hdm h1.sim (fun b hb => (h2.marks b hb).1) rfl h2.defers
    have hA' := h2.ext (ι1 := ι') (n' := H1.next) (fun _ _ => rfl) h5.next
    obtain ⟨h6, h7⟩ := resultsA_sound (P := P) h5.sim hA'.tmps hA'.ok fn.results.toList vs hres
    obtain ⟨h8, h9⟩ := tupA_sound (fn := fn) h6 h7
    exact ⟨ι', w'', _, h1.trans h5, h9, h3.trans h4, ⟨rfl, rfl, rfl, fn, hf, h8⟩, rfl⟩
  have fin : ∀ st, (ex ⟨f, none⟩ (if AV.rfL args then H.next else lo) c ⟨args ++ List.replicate (fn.ntmps - args.length) undefA, [], H⟩ = some (.normal, st) ∨
      ex ⟨f, none⟩ (if AV.rfL args then H.next else lo) c ⟨args ++ List.replicate (fn.ntmps - args.length) undefA, [], H⟩ = some (.ret, st)) →
      (match dropMarks st.H st.marks with
        | some H' => match resultsA P H' st.env fn.results.toList with
          | some vs => if AV.rfL args && (tupA vs).rf then some (tupA vs, H) else some (tupA vs, H')
          | none => none
        | none => none) = some (v, H') →
      ∃ ι' w' fr, Post P w0 base lo ι H w ι' H' w' ∧ v.OK w0 base H'.next ∧ Steps P (lone (Frame.enter P f (args.map (AV.conc ι)).toArray .normal) cs w) (lone fr cs w') ∧ fr.leaving P w' (.returned (v.conc ι')) ∧ fr.fn = f := by
    intro st hst h
    cases hdm : dropMarks st.H st.marks with
    | none => simp [hdm] at h
    | some H1 =>
    simp only [hdm] at h
    cases hres : resultsA P H1 st.env fn.results.toList with
    | none => simp [hres] at h
    | some vs =>
    simp only [hres] at h
    obtain ⟨ι', w', fr, h1, h2, h3, h4, h5⟩ := hbody st hst H1 vs hdm hres
    split at h
    · rename_i hc
      simp only [Bool.and_eq_true] at hc
      cases h
      rw [hc.1] at h1
      simp only [if_true] at h1
      exact ⟨ι', w', fr, Post.restore s h1 hlo, OK.mono (Nat.zero_le _) _ (OK.rf _ hc.2 h2), h3, h4, h5⟩
    · cases h
      exact ⟨ι', w', fr, h1.mono (by split <;> omega), h2, h3, h4, h5⟩
  split at h
  · rename_i st hst; exact fin st (.inl hst) h
  · rename_i st hst; exact fin st (.inr hst) h
  · cases h
end
end Go.Ab
