/- The abstract interpreter is sound, 9: the machine's steps in a frame, rounds too and what follows. Conditions: in each statement. -/
import Derived.Test.YtlbkcdfllglddaaA1
import Derived.Orders
/-! The abstract interpreter is sound, 9: the machine's steps in a frame, rounds too. Conditions: none. -/
set_option linter.unusedSimpArgs false
set_option linter.unusedVariables false
namespace Go.Ab
open Go Go.RowKit

/-- a real frame's fixed part -/
structure RC where
  fn : FuncId
  kind : CallKind
  rnd : Option Nat

def F (c : RC) (a : Act) (todo : List Item) : Frame := { fn := c.fn, tmps := a.tmps, todo, defers := a.defers, mode := .run, kind := c.kind, roundOf := c.rnd }

section
variable {P : Program} {c : RC} {a : Act} {k : List Item} {cs : List Frame} {w : World}
theorem F_eval (todo : List Item) : (F c a todo).eval = a.eval := by funext x; cases x <;> rfl
theorem st_skip : step P (lone (F c a (.code .skip :: k)) cs w) = .next (lone (F c a k) cs w) := step_lone_go (by simp [stepG, stepG.exec, F])
theorem st_inBlock {id : Nat} : step P (lone (F c a (.inBlock id :: k)) cs w) = .next (lone (F c a k) cs w) := step_lone_go (by simp [stepG, stepG.exec, F])
theorem st_seq {x y : Code} : step P (lone (F c a (.code (.seq x y) :: k)) cs w) = .next (lone (F c a (.code x :: .code y :: k)) cs w) := step_lone_go (by simp [stepG, stepG.exec, F])
theorem st_cond [E : Env] {o : Operand} {x y : Code} {t : Bool} (h : a.eval o = .bool t) : step P (lone (F c a (.code (.cond o x y) :: k)) cs w) = .next (lone (F c a (.code (if t then x else y) :: k)) cs w) :=
  step_lone_go (by
    have := congrFun (F_eval (c := c) (a := a) (.code (.cond o x y) :: k)) o
    simp only [F] at this
    simp [stepG, stepG.exec, F, this, h])
theorem st_block {id : Nat} {x : Code} : step P (lone (F c a (.code (.block id x) :: k)) cs w) = .next (lone (F c a (.code x :: .inBlock id :: k)) cs w) := step_lone_go (by simp [stepG, stepG.exec, F])
theorem st_loop {x : Code} : step P (lone (F c a (.code (.loop x) :: k)) cs w) = .next (lone (F c a (.code x :: .inLoop x :: k)) cs w) := step_lone_go (by simp [stepG, stepG.exec, F])
theorem st_inLoop {x : Code} : step P (lone (F c a (.inLoop x :: k)) cs w) = .next (lone (F c a (.code x :: .inLoop x :: k)) cs w) := step_lone_go (by simp [stepG, stepG.exec, F])
theorem st_exit {id : Nat} {k' : List Item} (h : exitTo id k = some k') : step P (lone (F c a (.code (.exit id) :: k)) cs w) = .next (lone (F c a k') cs w) := step_lone_go (by simp [stepG, stepG.exec, F, h])
theorem st_region {id : Nat} {ops : Array Oper} : step P (lone (F c a (.code (.region id ops false) :: k)) cs w) = .next (lone (F c a (.inRegion ops (List.range ops.size) :: k)) cs w) :=
  step_lone_go (by simp [stepG, stepG.exec, F])
theorem st_draw {id : Nat} {ops : Array Oper} : step P (lone (F c a (.code (.region id ops true) :: k)) cs w) =
    .next (lone (F c a (.inRegion ops (Region.schedule (P.follows .mixedOrders) ops (w.tape w.drawn (.order c.fn id))) :: k)) cs { w with drawn := w.drawn + 1 }) :=
  step_lone_go (by simp [stepG, stepG.exec, F, choose, Sem.run, Question.forced, Question.cut])
theorem st_regionEnd {ops : Array Oper} : step P (lone (F c a (.inRegion ops [] :: k)) cs w) = .next (lone (F c a k) cs w) := step_lone_go (by simp [stepG, stepG.exec, F])

theorem F_finish (ops : Array Oper) (i : Nat) (rest : List Nat) (v : Value) :
    (F c a (.inRegion ops (i :: rest) :: k)).finish v = F c (a.put ((ops[i]?).bind (·.dst)) v) (.inRegion ops rest :: k) := by
  cases h : (ops[i]?).bind (·.dst) <;> simp [Frame.finish, F, Act.put, h]
theorem st_opSkip [E : Env] {ops : Array Oper} {i : Nat} {rest : List Nat} (h : ((ops[i]?).map (Region.wanted · (yielded ops a.tmps))).getD false = false) :
    step P (lone (F c a (.inRegion ops (i :: rest) :: k)) cs w) = .next (lone (F c (a.put ((ops[i]?).bind (·.dst)) undef) (.inRegion ops rest :: k)) cs w) := by
  rw [← F_finish]
  exact step_lone_go (by
    have h' := h
    simp only [F] at *
    simp [stepG, stepG.exec, h'])
theorem stepG_opF [E : Env] {ops : Array Oper} {i : Nat} {rest : List Nat} {o : Oper} (ho : ops[i]? = some o) (hw : Region.wanted o (yielded ops a.tmps) = true) (hd : ∀ x, o.op ≠ .defer x) :
    stepG P true { frame := F c a (.inRegion ops (i :: rest) :: k), callers := cs, status := .running, dying := none } w =
      stepG.apply P true (F c a (.inRegion ops (i :: rest) :: k)) cs none (execOp a.eval o) w := by
  have he := F_eval (c := c) (a := a) (.inRegion ops (i :: rest) :: k)
  simp only [F] at he
  simp only [stepG, stepG.exec, F, ho, Option.map_some, hw, Option.getD_some, if_true, stepG.oper, Frame.oper?, he]
  split
  · rename_i l x _ hx; exact absurd hx (hd x)
  · rfl
/-- an operation that gives a value -/
theorem st_val [E : Env] {ops : Array Oper} {i : Nat} {rest : List Nat} {o : Oper} {v : Value} {w' : World} (ho : ops[i]? = some o) (hw : Region.wanted o (yielded ops a.tmps) = true) (hd : ∀ x, o.op ≠ .defer x)
    (h : (execOp a.eval o).run P w = .ok (.value v) w' ∨ (v = undef ∧ (execOp a.eval o).run P w = .ok .skip w')) :
    step P (lone (F c a (.inRegion ops (i :: rest) :: k)) cs w) = .next (lone (F c (a.put o.dst v) (.inRegion ops rest :: k)) cs w') := by
  have hf := F_finish (c := c) (a := a) (k := k) ops i rest v
  rw [ho] at hf
  simp only [Option.bind_some] at hf
  refine step_lone_go ?_
  rw [stepG_opF ho hw hd, ← hf]
  rcases h with h | ⟨rfl, h⟩ <;> simp [stepG.apply, h]
/-- an operation that enters a function -/
theorem st_enter [E : Env] {ops : Array Oper} {i : Nat} {rest : List Nat} {o : Oper} {f : FuncId} {args : Array Value} {w' : World} (ho : ops[i]? = some o) (hw : Region.wanted o (yielded ops a.tmps) = true) (hd : ∀ x, o.op ≠ .defer x)
    (h : (execOp a.eval o).run P w = .ok (.enter f args) w') :
    step P (lone (F c a (.inRegion ops (i :: rest) :: k)) cs w) = .next (lone (Frame.enter P f args .normal) (F c a (.inRegion ops (i :: rest) :: k) :: cs) w') := by
  refine step_lone_go ?_
  rw [stepG_opF ho hw hd]
  simp [stepG.apply, h, F]
/-- an operation that calls yield -/
theorem st_round [E : Env] {ops : Array Oper} {i : Nat} {rest : List Nat} {o : Oper} {l : Nat} {f : FuncId} {tmps : Array Value} {assign body : Code} {w' : World} (ho : ops[i]? = some o) (hw : Region.wanted o (yielded ops a.tmps) = true) (hd : ∀ x, o.op ≠ .defer x)
    (h : (execOp a.eval o).run P w = .ok (.round l f tmps assign body) w') :
    step P (lone (F c a (.inRegion ops (i :: rest) :: k)) cs w) = .next (lone (F ⟨f, .normal, some l⟩ ⟨tmps, []⟩ [.code assign, .beginRound, .code body]) (F c a (.inRegion ops (i :: rest) :: k) :: cs) w') := by
  refine step_lone_go ?_
  rw [stepG_opF ho hw hd]
  simp [stepG.apply, h, F, Frame.round]
theorem st_leave {fr d : Frame} {ds : List Frame} {v : Value} (h : fr.leaving P w (.returned v)) : step P (lone fr (d :: ds) w) = .next (lone (d.finish v) ds w) := step_leave_returned h

/-! ### rounds and loops over functions -/
theorem st_beginRound {l : Nat} {w' : World} (hc : c.rnd = some l) (h : (Instr.beginRound l).run P w = .ok () w') : step P (lone (F c a (.beginRound :: k)) cs w) = .next (lone (F c a k) cs w') :=
  step_lone_go (by simp [stepG, stepG.exec, F, hc, stepG.apply, h, Frame.finish])
theorem st_endRound {l : Nat} {v : Value} {w' : World} {d : Frame} {ds : List Frame} (hc : c.rnd = some l) (hk : c.kind = .normal) (h : (Instr.endRound l none).run P w = .ok v w') :
    step P (lone (F c a []) (d :: ds) w) = .next (lone (d.finish v) ds w') :=
  step_lone_go (by simp [stepG, stepG.exec, F, hc, hk, h, doReturn, Sem.runT_eq])
theorem st_retRound {l : Nat} {v : Value} {w' : World} {d : Frame} {ds : List Frame} (hc : c.rnd = some l) (hk : c.kind = .normal) (h : (Instr.endRound l (some .ret)).run P w = .ok v w') :
    step P (lone (F c a (.code .ret :: k)) (d :: ds) w) = .next (lone (d.finish v) ds w') :=
  step_lone_go (by simp [stepG, stepG.exec, F, hc, hk, h, doReturn, Sem.runT_eq])
theorem st_exitRound {id l : Nat} {v : Value} {w' : World} {d : Frame} {ds : List Frame} (hc : c.rnd = some l) (hk : c.kind = .normal) (hx : exitTo id k = none) (h : (Instr.endRound l (some (.exit id))).run P w = .ok v w') :
    step P (lone (F c a (.code (.exit id) :: k)) (d :: ds) w) = .next (lone (d.finish v) ds w') :=
  step_lone_go (by simp [stepG, stepG.exec, F, hc, hk, hx, h, doReturn, Sem.runT_eq])
/-- a frame that returns -/
theorem st_ret (hc : c.rnd = none) : step P (lone (F c a (.code .ret :: k)) cs w) = .next (lone { F c a (.code .ret :: k) with mode := .returning } cs w) := step_lone_go (by simp [stepG, stepG.exec, F, hc])
theorem st_end (hc : c.rnd = none) : step P (lone (F c a []) cs w) = .next (lone { F c a [] with mode := .returning } cs w) := step_lone_go (by simp [stepG, stepG.exec, F, hc])
theorem st_mark {fr : Frame} {b : Nat} {xs : Array Value} {ds : List Deferred} {w' : World} (hm : fr.mode = .returning) (hd : fr.defers = { target := .collected b, args := xs } :: ds)
    (h : (Instr.takeDeferred b).run P w = .ok [] w') : step P (lone fr cs w) = .next (lone { fr with defers := ds } cs w') :=
  step_lone_go (by simp [stepG, hm, unwind, hd, h, Sem.runT_eq])
/-- the start of a loop over a function: its record is laid, the function is called -/
theorem st_rangeCall {f : Operand} {params : Array Tmp} {assign body : Code} {l : Nat} {mark : List Deferred} {w1 w2 : World} {g : FuncId} {args : Array Value}
    (h : (Instr.enterLoop c.fn a.tmps params assign body c.rnd).run P w = .ok (l, mark) w1)
    (h2 : (do let d ← resolve a.eval { callee := .value f, args := #[.const (.func (.yield l) #[] #[])], argTypes := #[] } 0; invoke d.target d.args : Sem Next).run P w1 = .ok (.enter g args) w2) :
    step P (lone (F c a (.code (.rangeFunc f params assign body) :: k)) cs w) =
      .next (lone (Frame.enter P g args .normal) (F c ⟨a.tmps, mark ++ a.defers⟩ (.inRangeFunc l :: k) :: cs) w2) := by
  have he : ∀ todo ds, ({ fn := c.fn, tmps := a.tmps, todo, defers := ds, mode := .run, kind := c.kind, roundOf := c.rnd } : Frame).eval = a.eval := fun todo ds => by funext x; cases x <;> rfl
  refine step_lone_go ?_
  simp only [stepG, stepG.exec, F, Sem.runT_eq, h, GStep.bare_after, he]
  simp only [stepG.apply, Sem.runT_eq, h2, if_true, GStep.bare_after]
  rfl
theorem st_endLoop {l : Nat} {jump : Option Code} {w' : World} (h : (Instr.endLoop l).run P w = .ok jump w') :
    step P (lone (F c a (.endRangeFunc l :: k)) cs w) = .next (lone (F c a ((jump.map Item.code).toList ++ k)) cs w') :=
  step_lone_go (by simp [stepG, stepG.exec, F, h, Sem.runT_eq])
end
end Go.Ab
/-! The abstract interpreter is sound, 10: calls and rounds, given that the interpreter of the bodies is. Conditions: none. -/
set_option linter.unusedSimpArgs false
set_option linter.unusedVariables false
namespace Go.Ab
open Go Go.RowKit

def markOf (ι : Inj) (b : Nat) : Deferred := { target := .collected (ι b).1, args := #[] }
/-- a real frame's variable part is as the abstract one tells -/
structure ARel (w0 : World) (base lo : Nat) (ι : Inj) (n : Nat) (env : List AV) (marks : List Nat) (a : Act) : Prop where
  tmps : a.tmps = (env.map (AV.conc ι)).toArray
  ok : ∀ v ∈ env, v.OK w0 base n
  defers : a.defers = marks.map (markOf ι)
  marks : ∀ b ∈ marks, lo ≤ b ∧ b < n
structure CRel (ι : Inj) (n : Nat) (cx : Ctx) (c : RC) : Prop where
  fn : c.fn = cx.fn
  kind : c.kind = .normal
  rnd : (cx.rnd = none ∧ c.rnd = none) ∨ ∃ l, cx.rnd = some l ∧ l < n ∧ c.rnd = some (ι l).1

def Reach (P : Program) (m : Machine) (c : RC) (k : List Item) (cs : List Frame) : Ex → Act → World → Prop
  | .normal, a, w => Steps P m (lone (F c a k) cs w)
  | .exit id, a, w => ∃ k1, exitTo id k1 = exitTo id k ∧ Steps P m (lone (F c a (.code (.exit id) :: k1)) cs w)
  | .ret, a, w => ∃ k1, Steps P m (lone (F c a (.code .ret :: k1)) cs w)
  | .panic _, _, _ => False
theorem Reach.of_steps {P : Program} {m m1 : Machine} {c : RC} {k : List Item} {cs : List Frame} {e : Ex} {a : Act} {w : World} (h : Steps P m m1) (h' : Reach P m1 c k cs e a w) : Reach P m c k cs e a w := by
  cases e with
  | normal => exact h.trans h'
  | exit id => obtain ⟨k1, h1, h2⟩ := h'; exact ⟨k1, h1, h.trans h2⟩
  | ret => obtain ⟨k1, h2⟩ := h'; exact ⟨k1, h.trans h2⟩
  | panic v => exact h'

def Sound [E : Env] (P : Program) (w0 : World) (base : Nat) (ex : ExF) : Prop :=
  ∀ cx lo code st e st', ex cx lo code st = some (e, st') → ∀ ι w a c, Sim P w0 base ι st.H w → ARel w0 base lo ι st.H.next st.env st.marks a → CRel ι st.H.next cx c → lo ≤ st.H.next →
    ∀ k cs, ∃ ι' w' a', Post P w0 base lo ι st.H w ι' st'.H w' ∧ ARel w0 base lo ι' st'.H.next st'.env st'.marks a' ∧ Reach P (lone (F c a (.code code :: k)) cs w) c k cs e a' w'

section
variable {P : Program} {w0 : World} {base lo : Nat} {ι ι1 ι2 : Inj} {H H1 H2 : Heap} {w w1 w2 : World} {ex : ExF}

theorem ARel.ext [E : Env] {n n' : Nat} {env : List AV} {marks : List Nat} {a : Act} (h : ARel w0 base lo ι n env marks a) (he : ∀ b, b < n → ι1 b = ι b) (hn : n ≤ n') : ARel w0 base lo ι1 n' env marks a :=
  ⟨by rw [h.tmps, map_conc_ext he h.ok], fun v hv => OK.mono hn v (h.ok v hv), by
    rw [h.defers]; exact List.map_congr_left fun b hb => by simp [markOf, he b (h.marks b hb).2], fun b hb => ⟨(h.marks b hb).1, Nat.lt_of_lt_of_le (h.marks b hb).2 hn⟩⟩
theorem CRel.ext {n n' : Nat} {cx : Ctx} {c : RC} (h : CRel ι n cx c) (he : ∀ b, b < n → ι1 b = ι b) (hn : n ≤ n') : CRel ι1 n' cx c :=
  ⟨h.fn, h.kind, h.rnd.imp id fun ⟨l, h1, h2, h3⟩ => ⟨l, h1, Nat.lt_of_lt_of_le h2 hn, by rw [h3, he l h2]⟩⟩

theorem undef_conc (ι : Inj) : undefA.conc ι = undef := by simp [undefA, AV.conc, AV.concL, undef]
theorem ARel.ev [E : Env] {n : Nat} {env : List AV} {marks : List Nat} {a : Act} (h : ARel w0 base lo ι n env marks a) (gl : GlobOK w0 base) (x : Operand) : Ev w0 base n ι env a.eval x := by
  intro v hv
  cases x with
  | tmp t =>
    simp only [evalO, Option.some.injEq] at hv
    subst hv
    refine ⟨?_, ?_⟩
    · simp only [Act.eval, h.tmps]
      cases ht : env[t]? with
      | none => simp [List.getD, ht, undef_conc]
      | some u => simp [List.getD, ht]
    · cases ht : env[t]? with
      | none => simp [List.getD, ht, undefA, AV.OK, AV.OKL]
      | some u => simpa [List.getD, ht] using h.ok u (List.mem_of_getElem? ht)
  | const v' => exact ⟨(ofVal_conc ι hv).symm, OK.mono (Nat.zero_le _) v (ofVal_OK hv)⟩
  | global g =>
    obtain ⟨h1, h2⟩ := gl g v hv
    exact ⟨(h2 ι).symm, OK.mono (Nat.zero_le _) v h1⟩
  | func f => simp only [evalO, Option.some.injEq] at hv; subst hv; simp [Act.eval, AV.conc, AV.concL, AV.OK, AV.OKL]
theorem ARel.put {n : Nat} {env : List AV} {marks : List Nat} {a : Act} (h : ARel w0 base lo ι n env marks a) (d : Option Tmp) {v : AV} (hv : v.OK w0 base n) : ARel w0 base lo ι n (putE env d v) marks (a.put d (v.conc ι)) := by
  cases d with
  | none => exact h
  | some d =>
    refine ⟨?_, fun u hu => ?_, h.defers, h.marks⟩
    · simp [Act.put, putE, h.tmps, List.map_set]
    · simp only [putE] at hu
      rcases List.mem_or_eq_of_mem_set hu with hu | rfl
      · exact h.ok u hu
      · exact hv

/-- an object goes -/
theorem Post.drop [E : Env] (s : Sim P w0 base ι H w) {b : Nat} {x : Blk} (hx : H.get b = some x) (w1 : World) (hlo : lo ≤ b)
    (hw : w1.os = w.os ∧ w1.tape = w.tape ∧ w1.output = w.output ∧ w1.heap.size = w.heap.size) (hother : ∀ r, r ≠ (ι b).1 → w1.heap[r]? = w.heap[r]?) : Post P w0 base lo ι H w ι (H.kill b) w1 := by
  have hget : ∀ c z, (H.kill b).get c = some z → c ≠ b ∧ H.get c = some z := fun c z h => by
    rw [Heap.get_kill] at h
    by_cases e : c = b
    · simp [e] at h
    · rw [if_neg e] at h; exact ⟨e, h⟩
  refine ⟨⟨?_, s.hb, s.gl, ?_, ?_, ?_, ?_, ?_⟩, fun _ _ => rfl, Nat.le_refl _, ?_, ?_, by omega, ?_, ?_⟩
  · refine s.below.trans ⟨hw.1, hw.2.1, hw.2.2.1, by omega, fun k hk => hother k ?_⟩
    have := s.lo b x hx; omega
  · intro c c' z z' h h' e; exact s.inj c c' z z' (hget c z h).2 (hget c' z' h').2 e
  · intro c z h; exact s.lt c z (hget c z h).2
  · intro c z h; exact s.lo c z (hget c z h).2
  · intro c z h; exact s.ok c z (hget c z h).2
  · intro c z h
    obtain ⟨hne, hz⟩ := hget c z h
    rw [hother _ (fun e => hne (s.inj c b z x hz hx e))]
    exact s.rel c z hz
  · intro c hc; rw [Heap.get_kill, if_neg (by omega)]
  · intro c z hc h; exact ⟨z, (hget c z h).2⟩
  · intro r hr hne; exact hother r fun e => hne b x hx hlo e.symm
  · intro c z h hc; have := s.lt c z (hget c z h).2; omega

/-- a call that touched nothing old: the old heap still tells the truth -/
theorem Post.restore [E : Env] {ι' : Inj} {H' : Heap} {w' : World} (s : Sim P w0 base ι H w) (p : Post P w0 base H.next ι H w ι' H' w') (hlo : lo ≤ H.next) : Post P w0 base lo ι H w ι' H w' where
  sim := by
    have hk : ∀ b x, H.get b = some x → H'.get b = some x := fun b x h => by rw [p.keep b (s.lt b x h)]; exact h
    have he : ∀ b x, H.get b = some x → ι' b = ι b := fun b x h => p.ext b (s.lt b x h)
    exact { below := p.sim.below, hb := s.hb, gl := s.gl, inj := fun b b' x x' h h' => p.sim.inj b b' x x' (hk b x h) (hk b' x' h'), lt := s.lt,
            lo := fun b x h => p.sim.lo b x (hk b x h), ok := s.ok, rel := fun b x h => p.sim.rel b x (hk b x h) }
  ext := p.ext
  next := Nat.le_refl _
  keep := fun _ _ => rfl
  alive := fun b x _ h => ⟨x, h⟩
  size := p.size
  frame := fun r hr _ => p.frame r hr fun b x h hb => absurd (s.lt b x h) (by omega)
  newr := fun b x h hb => absurd (s.lt b x h) (by omega)

theorem marks_sound [E : Env] : ∀ (marks : List Nat) (H H' : Heap) (w : World) (fr : Frame) (cs : List Frame), dropMarks H marks = some H' → Sim P w0 base ι H w → (∀ b ∈ marks, lo ≤ b) → fr.mode = .returning → fr.defers = marks.map (markOf ι) →
    ∃ w', Steps P (lone fr cs w) (lone { fr with defers := [] } cs w') ∧ Post P w0 base lo ι H w ι H' w'
  | [], H, H', w, fr, cs, h, s, _, hm, hd => by
    simp only [dropMarks] at h; cases h
    refine ⟨w, ?_, Post.refl s⟩
    have : ({ fr with defers := [] } : Frame) = fr := by
      have hd' : fr.defers = [] := by simpa using hd
      cases fr; simp only at hd' ⊢; rw [hd']
    rw [this]; exact Steps.refl P _
  | b :: bs, H, H', w, fr, cs, h, s, hl, hm, hd => by
    simp only [dropMarks] at h
    split at h
    · rename_i hb
      have hr := s.rel b _ hb
      simp only [BlkRel] at hr
      have htake : (Instr.takeDeferred (ι b).1).run P w = .ok [] { w with heap := w.heap.setIfInBounds (ι b).1 (.deferred none) } := by
        simp only [Instr.takeDeferred, Sem.run_bind, getObj, Sem.run, hr, Result.andThen_ok]
        rw [run_setObj _ _ _ hr (by simp)]
        rfl
      have hpost := Post.drop (lo := lo) s hb { w with heap := w.heap.setIfInBounds (ι b).1 (.deferred none) } (hl b (by simp)) ⟨rfl, rfl, rfl, by simp⟩ (fun r hr' => Array.getElem?_setIfInBounds_ne (fun e => hr' e.symm))
      have hst := st_mark (P := P) (cs := cs) hm (b := (ι b).1) (xs := #[]) (ds := bs.map (markOf ι)) (by rw [hd]; rfl) htake
      obtain ⟨w', h1, h2⟩ := marks_sound bs (H.kill b) H' _ { fr with defers := bs.map (markOf ι) } cs h hpost.sim (fun c hc => hl c (by simp [hc])) hm rfl
      exact ⟨w', Steps.head hst h1, hpost.trans h2⟩
    · cases h

def resSem (tmps : Array Value) (r : ResultVar) : Sem Value :=
  match r with | .tmp t => pure (tmps.getD t undef) | .cell a t => do loadVar t (← asAddr (tmps.getD a undef))
theorem results_eq (fn : Func) (tmps : Array Value) : results fn tmps = (do let vs ← fn.results.mapM (resSem tmps); pure (if h : vs.size = 1 then vs[0] else .tuple vs)) := by
  unfold results
  have e : (fun r : ResultVar => (match r with | .tmp t => pure (tmps.getD t undef) | .cell a t => do loadVar t (← asAddr (tmps.getD a undef)) : Sem Value)) = resSem tmps := rfl
  rw [← e]
  rfl
theorem resultsA_sound [E : Env] (s : Sim P w0 base ι H w) {env : List AV} {tmps : Array Value} (ht : tmps = (env.map (AV.conc ι)).toArray) (hok : ∀ v ∈ env, v.OK w0 base H.next) : ∀ (rs : List ResultVar) (vs : List AV), resultsA P H env rs = some vs →
    (rs.mapM (resSem tmps)).run P w = .ok (vs.map (AV.conc ι)) w ∧ ∀ v ∈ vs, v.OK w0 base H.next
  | [], vs, h => by simp only [resultsA] at h; cases h; exact ⟨by simp, by simp⟩
  | r :: rs, vs, h => by
    have hget : ∀ t, tmps.getD t undef = (env.getD t undefA).conc ι ∧ (env.getD t undefA).OK w0 base H.next := fun t => by
      subst ht
      cases ht : env[t]? with
      | none => simp [List.getD, ht, undef_conc]; simp [undefA, AV.OK, AV.OKL]
      | some u => simp [List.getD, ht]; exact hok u (List.mem_of_getElem? ht)
    cases r with
    | tmp t =>
      simp only [resultsA] at h
      split at h
      · rename_i l hl
        cases h
        obtain ⟨h1, h2⟩ := resultsA_sound s ht hok rs l hl
        refine ⟨by simp only [List.mapM_cons, Sem.run_bind, resSem, Sem.run_pure, Result.andThen_ok, h1, (hget t).1, List.map_cons], fun v hv => ?_⟩
        rcases List.mem_cons.1 hv with rfl | hv
        · exact (hget t).2
        · exact h2 v hv
      · cases h
    | cell a t =>
      simp only [resultsA] at h
      split at h
      · rename_i v l hv hl
        cases h
        obtain ⟨h1, h2⟩ := resultsA_sound s ht hok rs l hl
        obtain ⟨A, hA, h3, h4⟩ := loadA_sound s hv (hget a).2
        refine ⟨by simp only [List.mapM_cons, Sem.run_bind, resSem, Sem.run_pure, (hget a).1, hA, asAddr, pure_bind, h3, Result.andThen_ok, h1, List.map_cons], fun u hu => ?_⟩
        rcases List.mem_cons.1 hu with rfl | hu
        · exact h4
        · exact h2 u hu
      · cases h

theorem tupA_sound [E : Env] {fn : Func} {tmps : Array Value} {vs : List AV} {n : Nat}
    (h : (fn.results.toList.mapM (resSem tmps)).run P w = .ok (vs.map (AV.conc ι)) w) (hok : ∀ v ∈ vs, v.OK w0 base n) :
    (results fn tmps).run P w = .ok ((tupA vs).conc ι) w ∧ (tupA vs).OK w0 base n := by
  have hm : (fn.results.mapM (resSem tmps)).run P w = .ok (vs.map (AV.conc ι)).toArray w := by
    rw [Array.mapM_eq_mapM_toList, Sem.run_map, h]; rfl
  constructor
  · simp only [results_eq, Sem.run_bind, hm, Result.andThen_ok, Sem.run_pure]
    congr 1
    rcases vs with _ | ⟨v, _ | ⟨u, vs⟩⟩
    · simp [tupA, AV.conc, AV.concL]
    · simp [tupA]
    · simp [tupA, AV.conc, concL_eq]
  · rcases vs with _ | ⟨v, _ | ⟨u, vs⟩⟩
    · simp [tupA, AV.OK, AV.OKL]
    · exact hok v (by simp)
    · simp only [tupA, AV.OK]; exact (OKL_iff ..).2 hok

theorem rel_lt {x : Blk} {cap r : Nat} (h : BlkRel P ι cap w.heap[r]? x) : r < w.heap.size := by
  have : ∃ o, w.heap[r]? = some o := by
    cases x with
    | cells t cs => obtain ⟨c, ho, _⟩ := h; exact ⟨_, ho⟩
    | _ => exact ⟨_, h⟩
  obtain ⟨o, ho⟩ := this
  exact (Array.getElem?_eq_some_iff.1 ho).1
mutual
/-- what is read-only may be named from a later world -/
theorem OK.here {w0 w : World} {base : Nat} (hb : base ≤ w0.heap.size) (hw : Below base w0 w) : ∀ v : AV, v.OK w0 base 0 → v.OK w w.heap.size 0
  | .bool _, _ | .int _ _, _ | .str _, _ | .nilp, _ | .nilf, _ | .nili, _ | .map none, _ => trivial
  | .ptr _ _, k | .sl _ _ _ _, k | .map (some _), k | .yieldf _, k => by simp [AV.OK] at k
  | .rptr a cs, k => by
    simp only [AV.OK] at k ⊢
    have hs := hw.size
    exact ⟨by omega, fun ι j c hc => by rw [hw.cell (by rw [add_block]; exact k.1)]; exact k.2.1 ι j c hc, OKL.here hb hw cs k.2.2⟩
  | .rsl none _ _ _, k => by simp only [AV.OK] at k ⊢; exact k
  | .rsl (some a) _ _ l, k => by
    simp only [AV.OK] at k ⊢
    have hs := hw.size
    refine ⟨k.1, fun ι i e he => ?_, OKL.here hb hw l k.2.2⟩
    obtain ⟨k1, k2, k3⟩ := k.2.1 ι i e he
    exact ⟨by omega, k2, fun j c hc => by rw [hw.cell (by rw [add_block, add_block]; exact k1)]; exact k3 j c hc⟩
  | .func _ a b, k => by simp only [AV.OK] at k ⊢; exact ⟨OKL.here hb hw a k.1, OKL.here hb hw b k.2⟩
  | .iface _ v, k => by simp only [AV.OK] at k ⊢; exact OK.here hb hw v k
  | .agg l, k | .tup l, k => by simp only [AV.OK] at k ⊢; exact OKL.here hb hw l k
theorem OKL.here {w0 w : World} {base : Nat} (hb : base ≤ w0.heap.size) (hw : Below base w0 w) : ∀ l : List AV, AV.OKL w0 base 0 l → AV.OKL w w.heap.size 0 l
  | [], _ => trivial
  | v :: vs, k => by simp only [AV.OKL] at k ⊢; exact ⟨OK.here hb hw v k.1, OKL.here hb hw vs k.2⟩
end

/-- the summaries are true -/
def SummOK [E : Env] (P : Program) : Prop := ∀ f args v, E.summ f args = some v → AV.rfL args = true →
  (∀ w0 base, AV.OKL w0 base 0 args → v.OK w0 base 0) ∧
  ∀ w ι, GlobOK w w.heap.size → AV.OKL w w.heap.size 0 args → Calls P f (args.map (AV.conc ι)).toArray w fun e w' => e = .returned (v.conc ι) ∧ Below w.heap.size w w'

/-- a Go function is called -/
theorem callA_sound [E : Env] (hQ : SummOK P) (hS : Sound P w0 base ex) (s : Sim P w0 base ι H w) {f : FuncId} {args : List AV} {v : AV} {H' : Heap} (h : callA P ex lo f args H = some (v, H')) (hargs : ∀ a ∈ args, a.OK w0 base H.next) (hlo : lo ≤ H.next) (cs : List Frame) :
    ∃ ι' w' fr, Post P w0 base lo ι H w ι' H' w' ∧ v.OK w0 base H'.next ∧ Steps P (lone (Frame.enter P f (args.map (AV.conc ι)).toArray .normal) cs w) (lone fr cs w') ∧ fr.leaving P w' (.returned (v.conc ι')) ∧ fr.fn = f := by
  unfold callA at h
  cases hf : P.funcs[f]? with
  | none => simp [hf] at h
  | some fn =>
  simp only [hf] at h
  cases hb : fn.body with
  | none => simp [hb] at h
  | some c =>
  simp only [hb] at h
  cases hsu : E.summ f args with
  | some v1 =>
    simp only [hsu] at h
    split at h
    · rename_i hrf
      cases h
      obtain ⟨q1, q2⟩ := hQ f args v hsu hrf
      have hargs0 := OKL.rf args hrf ((OKL_iff w0 base H.next args).2 hargs)
      obtain ⟨e, w', fr, ⟨rfl, h2⟩, h3, h4, h5⟩ := q2 w ι (fun g u hu => ⟨OK.here s.hb s.below u (s.gl g u hu).1, (s.gl g u hu).2⟩) (OKL.here s.hb s.below args hargs0) cs
      refine ⟨ι, w', fr, ?_, OK.mono (Nat.zero_le _) v (q1 w0 base hargs0), h3, h5, h4⟩
      have hfr : ∀ r, r < w.heap.size → w'.heap[r]? = w.heap[r]? := h2.block
      exact
        { sim := { below := s.below.trans (h2.mono (Nat.le_trans s.hb s.below.size)), hb := s.hb, gl := s.gl, inj := s.inj, lt := s.lt, lo := s.lo, ok := s.ok,
                   rel := fun b x hx => by
                     have := s.rel b x hx
                     rw [hfr _ (rel_lt this)]; exact this }
          ext := fun _ _ => rfl, next := Nat.le_refl _, keep := fun _ _ => rfl, alive := fun b x _ hx => ⟨x, hx⟩, size := h2.size,
          frame := fun r hr _ => hfr r hr, newr := fun b x hx hb => absurd (s.lt b x hx) (by omega) }
    · cases h
  | none =>
  simp only [hsu] at h
  -- the body's run
  have hbody : ∀ st, (ex ⟨f, none⟩ (if AV.rfL args then H.next else lo) c ⟨args ++ List.replicate (fn.ntmps - args.length) undefA, [], H⟩ = some (.normal, st) ∨
      ex ⟨f, none⟩ (if AV.rfL args then H.next else lo) c ⟨args ++ List.replicate (fn.ntmps - args.length) undefA, [], H⟩ = some (.ret, st)) →
      ∀ H1 vs, dropMarks st.H st.marks = some H1 → resultsA P H1 st.env fn.results.toList = some vs →
      ∃ ι' w' fr, Post P w0 base (if AV.rfL args then H.next else lo) ι H w ι' H1 w' ∧ (tupA vs).OK w0 base H1.next ∧ Steps P (lone (Frame.enter P f (args.map (AV.conc ι)).toArray .normal) cs w) (lone fr cs w') ∧ fr.leaving P w' (.returned ((tupA vs).conc ι')) ∧ fr.fn = f := by
    intro st hst H1 vs hdm hres
    have hlo' : (if AV.rfL args then H.next else lo) ≤ H.next := by split <;> omega
    have henter : Frame.enter P f (args.map (AV.conc ι)).toArray .normal = F ⟨f, .normal, none⟩ ⟨(args.map (AV.conc ι)).toArray ++ Array.replicate (fn.ntmps - args.length) undef, []⟩ [.code c] := by
      simp [Frame.enter, F, hf, hb]
    have hA : ARel w0 base (if AV.rfL args then H.next else lo) ι H.next (args ++ List.replicate (fn.ntmps - args.length) undefA) [] ⟨(args.map (AV.conc ι)).toArray ++ Array.replicate (fn.ntmps - args.length) undef, []⟩ := by
      refine ⟨?_, fun u hu => ?_, rfl, by simp⟩
      · apply Array.ext'; simp [undef_conc]
      · rcases List.mem_append.1 hu with hu | hu
        · exact hargs u hu
        · rw [List.eq_of_mem_replicate hu]; simp [undefA, AV.OK, AV.OKL]
    have hC : CRel ι H.next ⟨f, none⟩ ⟨f, .normal, none⟩ := ⟨rfl, rfl, .inl ⟨rfl, rfl⟩⟩
    have key : ∃ ι' w' a' todo, Post P w0 base (if AV.rfL args then H.next else lo) ι H w ι' st.H w' ∧ ARel w0 base (if AV.rfL args then H.next else lo) ι' st.H.next st.env st.marks a' ∧
        Steps P (lone (Frame.enter P f (args.map (AV.conc ι)).toArray .normal) cs w) (lone { F ⟨f, .normal, none⟩ a' todo with mode := .returning } cs w') := by
      rw [henter]
      rcases hst with hst | hst
      · obtain ⟨ι', w', a', h1, h2, h3⟩ := hS _ _ _ _ _ _ hst ι w _ _ s hA hC hlo' [] cs
        exact ⟨ι', w', a', _, h1, h2, Steps.trans h3 (.one (st_end rfl))⟩
      · obtain ⟨ι', w', a', h1, h2, k1, h3⟩ := hS _ _ _ _ _ _ hst ι w _ _ s hA hC hlo' [] cs
        exact ⟨ι', w', a', _, h1, h2, Steps.trans h3 (.one (st_ret rfl))⟩
    obtain ⟨ι', w', a', todo, h1, h2, h3⟩ := key
    obtain ⟨w'', h4, h5⟩ := marks_sound (lo := if AV.rfL args then H.next else lo) st.marks st.H H1 w' { F ⟨f, .normal, none⟩ a' todo with mode := .returning } cs hdm h1.sim (fun b hb => (h2.marks b hb).1) rfl h2.defers
    have hA' := h2.ext (ι1 := ι') (n' := H1.next) (fun _ _ => rfl) h5.next
    obtain ⟨h6, h7⟩ := resultsA_sound (P := P) h5.sim hA'.tmps hA'.ok fn.results.toList vs hres
    obtain ⟨h8, h9⟩ := tupA_sound (fn := fn) h6 h7
    exact ⟨ι', w'', _, h1.trans h5, h9, h3.trans h4, ⟨rfl, rfl, rfl, fn, hf, h8⟩, rfl⟩
  have fin : ∀ st, (ex ⟨f, none⟩ (if AV.rfL args then H.next else lo) c ⟨args ++ List.replicate (fn.ntmps - args.length) undefA, [], H⟩ = some (.normal, st) ∨
      ex ⟨f, none⟩ (if AV.rfL args then H.next else lo) c ⟨args ++ List.replicate (fn.ntmps - args.length) undefA, [], H⟩ = some (.ret, st)) →
      (match dropMarks st.H st.marks with
        | some H' => match resultsA P H' st.env fn.results.toList with
          | some vs => if AV.rfL args && (tupA vs).rf then some (tupA vs, H) else some (tupA vs, H')
          | none => none
        | none => none) = some (v, H') →
      ∃ ι' w' fr, Post P w0 base lo ι H w ι' H' w' ∧ v.OK w0 base H'.next ∧ Steps P (lone (Frame.enter P f (args.map (AV.conc ι)).toArray .normal) cs w) (lone fr cs w') ∧ fr.leaving P w' (.returned (v.conc ι')) ∧ fr.fn = f := by
    intro st hst h
    cases hdm : dropMarks st.H st.marks with
    | none => simp [hdm] at h
    | some H1 =>
    simp only [hdm] at h
    cases hres : resultsA P H1 st.env fn.results.toList with
    | none => simp [hres] at h
    | some vs =>
    simp only [hres] at h
    obtain ⟨ι', w', fr, h1, h2, h3, h4, h5⟩ := hbody st hst H1 vs hdm hres
    split at h
    · rename_i hc
      simp only [Bool.and_eq_true] at hc
      cases h
      rw [hc.1] at h1
      simp only [if_true] at h1
      exact ⟨ι', w', fr, Post.restore s h1 hlo, OK.mono (Nat.zero_le _) _ (OK.rf _ hc.2 h2), h3, h4, h5⟩
    · cases h
      exact ⟨ι', w', fr, h1.mono (by split <;> omega), h2, h3, h4, h5⟩
  split at h
  · rename_i st hst; exact fin st (.inl hst) h
  · rename_i st hst; exact fin st (.inr hst) h
  · cases h
end
end Go.Ab
/-! The abstract interpreter is sound, 11: rounds, operations with calls, regions in the text's order. Conditions: none. -/
set_option linter.unusedSimpArgs false
set_option linter.unusedVariables false
namespace Go.Ab
open Go Go.RowKit

/-- no function is one that the model answers itself; the summaries are true -/
structure Names [E : Env] (P : Program) : Prop where
  names : ∀ (f : Nat) (fn : Func), P.funcs[f]? = some fn → (fn.name == "runtime.NumGoroutine") = false
  summ : SummOK P

section
variable {P : Program} {w0 : World} {base lo : Nat} {ι ι1 ι2 : Inj} {H H1 H2 : Heap} {w w1 w2 : World} {ex : ExF}

theorem setParams_sound : ∀ (ts : List Tmp) (vs env env' : List AV), setParams env ts vs = some env' →
    ts.length = vs.length ∧ ((ts.zip (vs.map (AV.conc ι))).foldl (fun (tm : Array Value) (p : Tmp × Value) => tm.setIfInBounds p.1 p.2) (env.map (AV.conc ι)).toArray) = (env'.map (AV.conc ι)).toArray ∧
      ∀ v ∈ env', v ∈ env ∨ v ∈ vs
  | [], [], env, env', h => by simp only [setParams] at h; cases h; exact ⟨rfl, rfl, fun v hv => .inl hv⟩
  | [], _ :: _, env, env', h => by simp [setParams] at h
  | _ :: _, [], env, env', h => by simp [setParams] at h
  | t :: ts, v :: vs, env, env', h => by
    simp only [setParams] at h
    obtain ⟨h1, h2, h3⟩ := setParams_sound ts vs (env.set t v) env' h
    refine ⟨by simp [h1], ?_, fun u hu => ?_⟩
    · simp only [List.map_cons, List.zip_cons_cons, List.foldl_cons]
      rw [← h2]
      congr 1
      simp [List.map_set]
    · rcases h3 u hu with hu | hu
      · rcases List.mem_or_eq_of_mem_set hu with hu | rfl
        · exact .inl hu
        · exact .inr (by simp)
      · exact .inr (by simp [hu])

theorem run_getLoop [E : Env] (s : Sim P w0 base ι H w) {l : Nat} {st : LoopState} {pend : Option Code} {fn : FuncId} {tmps : List AV} {params : List Tmp} {assign body : Code} {d : Nat} (h : H.get l = some (.loop st pend fn tmps params assign body d)) :
    (Instr.getLoop (ι l).1).run P w = .ok { state := st, pending := pend, fn, tmps := (tmps.map (AV.conc ι)).toArray, params := params.toArray, assign, body, defers := (ι d).1 } w ∧
      w.heap[(ι l).1]? = some (.loop { state := st, pending := pend, fn, tmps := (tmps.map (AV.conc ι)).toArray, params := params.toArray, assign, body, defers := (ι d).1 }) := by
  have hr := s.rel l _ h
  simp only [BlkRel] at hr
  exact ⟨by simp [Instr.getLoop, getObj, Sem.run, hr], hr⟩
/-- a loop's record turns -/
theorem Post.loop [E : Env] (s : Sim P w0 base ι H w) {l : Nat} {st : LoopState} {pend : Option Code} {fn : FuncId} {tmps : List AV} {params : List Tmp} {assign body : Code} {d : Nat} (h : H.get l = some (.loop st pend fn tmps params assign body d)) (st' : LoopState) (pend' : Option Code) (hlo : lo ≤ l) :
    ∃ w1, (setObj (ι l).1 (.loop { state := st', pending := pend', fn, tmps := (tmps.map (AV.conc ι)).toArray, params := params.toArray, assign, body, defers := (ι d).1 })).run P w = .ok () w1 ∧
    Post P w0 base lo ι H w ι (H.set l (.loop st' pend' fn tmps params assign body d)) w1 :=
  ⟨_, run_setObj _ _ _ (run_getLoop s h).2 (by simp), Post.putObj s h _ _ hlo (by have h2 := s.ok l _ h; exact h2) rfl⟩

theorem endRoundA_sound [E : Env] (s : Sim P w0 base ι H w) {l : Nat} {jump : Option Code} {v : AV} {H' : Heap} (h : endRoundA H l jump = some (v, H')) (hlo : lo ≤ l) :
    ∃ w', (Instr.endRound (ι l).1 jump).run P w = .ok (v.conc ι) w' ∧ Post P w0 base lo ι H w ι H' w' ∧ v.OK w0 base H'.next := by
  unfold endRoundA at h
  split at h
  · rename_i pend fn tmps params assign body d hb
    cases h
    obtain ⟨w1, h1, h2⟩ := Post.loop (lo := lo) s hb (if jump.isNone then .ready else .done) jump hlo
    refine ⟨_, ?_, h2, trivial⟩
    simp only [Instr.endRound, Sem.run_bind, (run_getLoop s hb).1, Result.andThen_ok, h1, Sem.run_pure, AV.conc]
  · cases h

theorem roundA_sound [E : Env] (hS : Sound P w0 base ex) (s : Sim P w0 base ι H w) {l : Nat} {args : List AV} {v : AV} {H' : Heap} (h : roundA ex lo l args H = some (v, H')) (hargs : ∀ a ∈ args, a.OK w0 base H.next) (hlo : lo ≤ H.next) :
    ∃ f tmps assign body, (Instr.yield (ι l).1 (args.map (AV.conc ι)).toArray).run P w = .ok (.round (ι l).1 f tmps assign body) w ∧
      ∀ (d : Frame) (ds : List Frame), ∃ ι' w', Post P w0 base lo ι H w ι' H' w' ∧ v.OK w0 base H'.next ∧
        Steps P (lone (F ⟨f, .normal, some (ι l).1⟩ ⟨tmps, []⟩ [.code assign, .beginRound, .code body]) (d :: ds) w) (lone (d.finish (v.conc ι')) ds w') := by
  unfold roundA at h
  split at h
  · rename_i st0 pend0 fn tmps params assign body d0 hl
    split at h
    · rename_i hlol
      split at h
      · cases h
      · rename_i env henv
        obtain ⟨e1, e2, e3⟩ := setParams_sound (ι := ι) params args tmps env henv
        refine ⟨fn, (env.map (AV.conc ι)).toArray, assign, body, ?_, fun d ds => ?_⟩
        · simp only [Instr.yield, Sem.run_bind, (run_getLoop s hl).1, Result.andThen_ok]
          rw [if_neg (by simp [e1])]
          simp only [pure_bind, Sem.run_pure]
          congr 2
          rw [← e2]
          simp
        · have hlt := s.lt l _ hl
          have hOKenv : ∀ u ∈ env, u.OK w0 base H.next := fun u hu => by
            rcases e3 u hu with hu | hu
            · exact (s.ok l _ hl).1 u hu
            · exact hargs u hu
          have hA : ARel w0 base lo ι H.next env [] ⟨(env.map (AV.conc ι)).toArray, []⟩ := ⟨rfl, hOKenv, rfl, by simp⟩
          have hC : CRel ι H.next ⟨fn, some l⟩ ⟨fn, .normal, some (ι l).1⟩ := ⟨rfl, rfl, .inr ⟨l, rfl, hlt, rfl⟩⟩
          split at h
          · rename_i env1 H1 hex1
            obtain ⟨ι1, w1, a1, hp1, hA1, hR1⟩ := hS _ _ _ _ _ _ hex1 ι w _ _ s hA hC hlo [.beginRound, .code body] (d :: ds)
            simp only at hp1 hA1
            have hιl : ι1 l = ι l := hp1.ext l hlt
            split at h
            · rename_i pend fn1 tmps1 params1 assign1 body1 d1 hl1
              obtain ⟨wb, hset, hp2⟩ := Post.loop (lo := lo) hp1.sim hl1 .busy pend hlol
              have hbeg : (Instr.beginRound (ι l).1).run P w1 = .ok () wb := by
                rw [← hιl]
                simp only [Instr.beginRound, Sem.run_bind, (run_getLoop hp1.sim hl1).1, Result.andThen_ok, hset]
                rfl
              have hsteps1 : Steps P (lone (F ⟨fn, .normal, some (ι l).1⟩ ⟨(env.map (AV.conc ι)).toArray, []⟩ [.code assign, .beginRound, .code body]) (d :: ds) w) (lone (F ⟨fn, .normal, some (ι l).1⟩ a1 [.code body]) (d :: ds) wb) :=
                Steps.trans hR1 (.one (st_beginRound rfl hbeg))
              have hp12 := hp1.trans hp2
              have hC1 : CRel ι1 H1.next ⟨fn, some l⟩ ⟨fn, .normal, some (ι l).1⟩ := hC.ext hp1.ext hp1.next
              have hlo1 : lo ≤ H1.next := Nat.le_trans hlo hp1.next
              -- the body, whatever way it ends
              have hbody : ∀ e env2 H2, ex ⟨fn, some l⟩ lo body ⟨env1, [], H1.set l (.loop .busy pend fn1 tmps1 params1 assign1 body1 d1)⟩ = some (e, ⟨env2, [], H2⟩) →
                  ∃ ι2 w2 a2, Post P w0 base lo ι H w ι2 H2 w2 ∧ ι2 l = ι l ∧ Reach P (lone (F ⟨fn, .normal, some (ι l).1⟩ ⟨(env.map (AV.conc ι)).toArray, []⟩ [.code assign, .beginRound, .code body]) (d :: ds) w) ⟨fn, .normal, some (ι l).1⟩ [] (d :: ds) e a2 w2 := by
                intro e env2 H2 hex2
                obtain ⟨ι2, w2, a2, hp3, hA3, hR3⟩ := hS _ _ _ _ _ _ hex2 ι1 _ a1 _ hp2.sim hA1 hC1 hlo1 [] (d :: ds)
                have hp := hp12.trans hp3
                exact ⟨ι2, w2, a2, hp, hp.ext l hlt, hR3.of_steps hsteps1⟩
              split at h
              · rename_i env2 H2 hex2
                obtain ⟨ι2, w2, a2, hp, hl2, hR⟩ := hbody _ _ _ hex2
                obtain ⟨w3, hend, hp4, hv⟩ := endRoundA_sound hp.sim h hlol
                rw [hl2] at hend
                exact ⟨ι2, w3, hp.trans hp4, hv, Steps.trans hR (.one (st_endRound rfl rfl hend))⟩
              · rename_i env2 H2 hex2
                obtain ⟨ι2, w2, a2, hp, hl2, hR⟩ := hbody _ _ _ hex2
                obtain ⟨w3, hend, hp4, hv⟩ := endRoundA_sound hp.sim h hlol
                rw [hl2] at hend
                obtain ⟨k1, hR⟩ := hR
                exact ⟨ι2, w3, hp.trans hp4, hv, Steps.trans hR (.one (st_retRound rfl rfl hend))⟩
              · rename_i id env2 H2 hex2
                obtain ⟨ι2, w2, a2, hp, hl2, hR⟩ := hbody _ _ _ hex2
                obtain ⟨w3, hend, hp4, hv⟩ := endRoundA_sound hp.sim h hlol
                rw [hl2] at hend
                obtain ⟨k1, hk1, hR⟩ := hR
                exact ⟨ι2, w3, hp.trans hp4, hv, Steps.trans hR (.one (st_exitRound rfl rfl (by rw [hk1]; rfl) hend))⟩
              · cases h
            · cases h
          · cases h
    · cases h
  · cases h

theorem callA_body [E : Env] {f : FuncId} {args : List AV} {r : AV × Heap} (h : callA P ex lo f args H = some r) : ∃ fn c, P.funcs[f]? = some fn ∧ fn.body = some c := by
  unfold callA at h
  cases hf : P.funcs[f]? with
  | none => simp [hf] at h
  | some fn =>
    cases hb : fn.body with
    | none => simp [hf, hb] at h
    | some c => exact ⟨fn, c, rfl, hb⟩
theorem run_callFunc [E : Env] (hN : Names P) {f : FuncId} {fn : Func} {c : Code} (hf : P.funcs[f]? = some fn) (hb : fn.body = some c) (args : Array Value) : (callFunc f args).run P w = .ok (.enter f args) w := by
  have : fn.name ≠ "runtime.NumGoroutine" := by have := hN.names f fn hf; simpa using this
  simp [callFunc, program, Sem.run, hf, this, hb]

theorem yielded_eq {env : List AV} (ops : Array Oper) (j : Nat) : yielded ops (env.map (AV.conc ι)).toArray j = yieldedA ops env j := by
  unfold yielded yieldedA
  cases hd : (ops[j]?).bind (·.dst) with
  | none => rfl
  | some t =>
    simp only [Option.bind_some, List.getElem?_toArray, List.getElem?_map]
    cases ht : env[t]? with
    | none => rfl
    | some v =>
      simp only [Option.map_some]
      cases v <;> try rfl
      rename_i b; cases b <;> rfl
theorem wanted_eq [E : Env] {env : List AV} (ops : Array Oper) (o : Oper) : Region.wanted o (yielded ops (env.map (AV.conc ι)).toArray) = Region.wanted o (yieldedA ops env) := by
  have : yielded ops (env.map (AV.conc ι)).toArray = yieldedA ops env := funext fun j => yielded_eq ops j
  rw [this]

theorem opA_sound [E : Env] (hN : Names P) (hS : Sound P w0 base ex) (s : Sim P w0 base ι H w) {env : List AV} {o : Oper} {v : AV} {H' : Heap} (h : opA P ex lo env H o = some (v, H')) (hlo : lo ≤ H.next) (c : RC) (a : Act)
    (hE : ∀ x ∈ o.op.operands, Ev w0 base H.next ι env a.eval x) {ops : Array Oper} {i : Nat} (ho : ops[i]? = some o) (hw : Region.wanted o (yielded ops a.tmps) = true) (rest : List Nat) (k : List Item) (cs : List Frame) :
    ∃ ι' w', Post P w0 base lo ι H w ι' H' w' ∧ v.OK w0 base H'.next ∧ Steps P (lone (F c a (.inRegion ops (i :: rest) :: k)) cs w) (lone (F c (a.put o.dst (v.conc ι')) (.inRegion ops rest :: k)) cs w') := by
  by_cases hcall : ∃ f args ats, o.op = .call { callee := .value f, args := args, argTypes := ats }
  · obtain ⟨f, args, ats, hop⟩ := hcall
    have hd : ∀ x, o.op ≠ .defer x := fun x => by rw [hop]; simp
    unfold opA at h
    rw [hop] at h
    simp only at h
    obtain ⟨fv, hfv, h⟩ := bind1 h
    obtain ⟨vs, hvs, h⟩ := bind1 h
    rw [hop] at hE
    obtain ⟨ef, efOK⟩ := hE f (by simp [Op.operands, Call.operands]) fv hfv
    obtain ⟨e1, e2⟩ := evalL_sound (ι := ι) (ρ := a.eval) args.toList vs hvs (fun y hy => hE y (by simp [Op.operands, Call.operands]; exact .inr (by simpa using hy)))
    have e3 : args.map a.eval = (vs.map (AV.conc ι)).toArray := by rw [← e1]; apply Array.ext'; simp
    have hfin : ∀ u, (F c a (.inRegion ops (i :: rest) :: k)).finish u = F c (a.put o.dst u) (.inRegion ops rest :: k) := fun u => by
      rw [F_finish, ho]; rfl
    cases fv with
    | func g first cap =>
      simp only [callV] at h
      simp only [AV.OK] at efOK
      obtain ⟨fn, body, hf, hb⟩ := callA_body h
      have hexec : (execOp a.eval o).run P w = .ok (.enter g ((first ++ vs ++ cap).map (AV.conc ι)).toArray) w := by
        simp only [execOp, hop, resolve, ef, AV.conc, Deferred.ofValue, pure_bind, invoke, e3, concL_eq]
        rw [run_callFunc hN hf hb]
        congr 2
        apply Array.ext'
        simp
      obtain ⟨ι', w', fr, h1, h2, h3, h4, _⟩ := callA_sound hN.summ hS s h (fun x hx => by
        rcases List.mem_append.1 hx with hx | hx
        · rcases List.mem_append.1 hx with hx | hx
          · exact (OKL_iff ..).1 efOK.1 x hx
          · exact e2 x hx
        · exact (OKL_iff ..).1 efOK.2 x hx) hlo (F c a (.inRegion ops (i :: rest) :: k) :: cs)
      refine ⟨ι', w', h1, h2, Steps.head (st_enter ho hw hd hexec) (h3.trans (.one ?_))⟩
      rw [st_leave h4, hfin]
    | yieldf l =>
      simp only [callV] at h
      obtain ⟨f', tmps, assign, body, hy, hround⟩ := roundA_sound hS s h e2 hlo
      have hexec : (execOp a.eval o).run P w = .ok (.round (ι l).1 f' tmps assign body) w := by
        simp only [execOp, hop, resolve, ef, AV.conc, Deferred.ofValue, pure_bind, invoke, e3]
        simpa using hy
      obtain ⟨ι', w', h1, h2, h3⟩ := hround (F c a (.inRegion ops (i :: rest) :: k)) cs
      refine ⟨ι', w', h1, h2, Steps.head (st_round ho hw hd hexec) ?_⟩
      rw [← hfin]; exact h3
    | _ => simp [callV] at h
  · have h' : aop P lo env H o = some (v, H') := by
      unfold opA at h
      split at h
      · rename_i f args ats hop; exact absurd ⟨_, _, _, hop⟩ hcall
      · exact h
    have hd : ∀ x, o.op ≠ .defer x := fun x e => by
      obtain ⟨dst, op, type, pos, after, guard⟩ := o
      simp only at e; subst e; simp [aop] at h'
    obtain ⟨ι', w', h1, h2, h3⟩ := aop_sound s h' a.eval hE hlo
    refine ⟨ι', w', h2, h3, .one (st_val ho hw hd ?_)⟩
    rcases h1 with h1 | ⟨rfl, h1⟩
    · exact .inl h1
    · exact .inr ⟨undef_conc ι', h1⟩

theorem runOps_sound [E : Env] (hN : Names P) (hS : Sound P w0 base ex) (ops : Array Oper) (marks : List Nat) (c : RC) (k : List Item) (cs : List Frame) : ∀ (l : List Oper) (i : Nat) (env : List AV) (H : Heap) (env' : List AV) (H' : Heap) (ι : Inj) (w : World) (a : Act),
    (∀ j, l[j]? = ops[i + j]?) → runOps P ex lo ops l env H = some (env', H') → Sim P w0 base ι H w → ARel w0 base lo ι H.next env marks a → lo ≤ H.next →
    ∃ ι' w' a', Post P w0 base lo ι H w ι' H' w' ∧ ARel w0 base lo ι' H'.next env' marks a' ∧ Steps P (lone (F c a (.inRegion ops (List.range' i l.length) :: k)) cs w) (lone (F c a' (.inRegion ops [] :: k)) cs w')
  | [], i, env, H, env', H', ι, w, a, _, h, s, hA, hlo => by
    simp only [runOps] at h; cases h
    exact ⟨ι, w, a, Post.refl s, hA, Steps.refl P _⟩
  | o :: l, i, env, H, env', H', ι, w, a, hl, h, s, hA, hlo => by
    have ho : ops[i]? = some o := by simpa using (hl 0).symm
    have hl' : ∀ j, l[j]? = ops[i + 1 + j]? := fun j => by have := hl (j + 1); simpa [Nat.add_assoc, Nat.add_comm 1 j] using this
    simp only [runOps] at h
    simp only [List.length_cons, List.range'_succ]
    have hwe : Region.wanted o (yielded ops a.tmps) = Region.wanted o (yieldedA ops env) := by rw [hA.tmps]; exact wanted_eq ops o
    split at h
    · rename_i hwant
      split at h
      · rename_i v H1 hop
        obtain ⟨ι1, w1, hp, hv, hst⟩ := opA_sound hN hS s hop hlo c a (fun x _ => hA.ev s.gl x) ho (by rw [hwe]; exact hwant) (List.range' (i + 1) l.length) k cs
        obtain ⟨ι2, w2, a2, hp2, hA2, hst2⟩ := runOps_sound hN hS ops marks c k cs l (i + 1) _ H1 env' H' ι1 w1 (a.put o.dst (v.conc ι1)) hl' h hp.sim ((hA.ext hp.ext hp.next).put o.dst hv) (Nat.le_trans hlo hp.next)
        exact ⟨ι2, w2, a2, hp.trans hp2, hA2, hst.trans hst2⟩
      · cases h
    · rename_i hwant
      have hsk := st_opSkip (P := P) (c := c) (a := a) (k := k) (cs := cs) (w := w) (ops := ops) (i := i) (rest := List.range' (i + 1) l.length) (by rw [ho]; simp [hwe]; simpa using hwant)
      rw [ho] at hsk
      simp only [Option.bind_some] at hsk
      have hA' := hA.put o.dst (v := undefA) (by simp [undefA, AV.OK, AV.OKL])
      rw [undef_conc] at hA'
      obtain ⟨ι2, w2, a2, hp2, hA2, hst2⟩ := runOps_sound hN hS ops marks c k cs l (i + 1) _ H env' H' ι w (a.put o.dst undef) hl' h s hA' hlo
      exact ⟨ι2, w2, a2, hp2, hA2, Steps.head hsk hst2⟩
end
end Go.Ab
/-! The abstract interpreter is sound, 12: regions whose order is open. Conditions: none. -/
set_option linter.unusedSimpArgs false
set_option linter.unusedVariables false
namespace Go.Ab
open Go Go.RowKit

/-- one quiet operation, as the interpreter takes it -/
def QS [E : Env] (P : Program) (ex : ExF) (ops : Array Oper) (bef : Array Nat) (j : Nat) (o : Oper) (env : List AV) (H : Heap) (kept : List (Nat × Nat × Nat)) (v : AV) (H' : Heap) (kept' : List (Nat × Nat × Nat)) : Prop :=
  (Region.wanted o (yieldedA ops env) = false ∧ v = undefA ∧ H' = H ∧ kept' = kept) ∨
  (Region.wanted o (yieldedA ops env) = true ∧ heapFree o.op = true ∧ opA P ex H.next env H o = some (v, H') ∧ v.all (visA (bef.getD j 0) kept) = true ∧ newOk (visA (bef.getD j 0) kept) H H' = true ∧ kept' = (if H'.next = H.next then kept else (j, H.next, H'.next - H.next) :: kept)) ∨
  (Region.wanted o (yieldedA ops env) = true ∧ ∃ H1, opA P ex H.next env (viewA H (bef.getD j 0) kept) o = some (v, H1) ∧ v.all (visA (bef.getD j 0) kept) = true ∧
    ((H' = H ∧ kept' = kept ∧ (onlyReads o.op = true ∨ v.rf = true)) ∨ (newOk (visA (bef.getD j 0) kept) H H1 = true ∧ H' = growH H H1 ∧ kept' = (j, H.next, H1.next - H.next) :: kept)))

section
variable {P : Program} {w0 : World} {base lo : Nat} {ι ι1 ι2 : Inj} {H H1 H2 : Heap} {w w1 w2 : World} {ex : ExF}

theorem runQuiet_trace [E : Env] (ops : Array Oper) (bef : Array Nat) : ∀ (l : List Oper) (i : Nat) (env : List AV) (H : Heap) (kept : List (Nat × Nat × Nat)) (env' : List AV) (H' : Heap), (∀ j o, l[j]? = some o → ops[i + j]? = some o) →
    runQuiet P ex ops bef i l env H kept = some (env', H') →
    ∃ (e : Nat → List AV) (h : Nat → Heap) (kp : Nat → List (Nat × Nat × Nat)) (val : Nat → AV), e i = env ∧ h i = H ∧ kp i = kept ∧ e (i + l.length) = env' ∧ h (i + l.length) = H' ∧
      ∀ j, i ≤ j → j < i + l.length → ∃ o, ops[j]? = some o ∧ QS P ex ops bef j o (e j) (h j) (kp j) (val j) (h (j + 1)) (kp (j + 1)) ∧ e (j + 1) = putE (e j) o.dst (val j)
  | [], i, env, H, kept, env', H', _, h => by
    simp only [runQuiet] at h; cases h
    exact ⟨fun _ => env, fun _ => H, fun _ => kept, fun _ => undefA, rfl, rfl, rfl, rfl, rfl, fun j h1 h2 => absurd h2 (by simp; omega)⟩
  | o :: l, i, env, H, kept, env', H', hl, h => by
    have ho : ops[i]? = some o := by have := hl 0 o rfl; simpa using this
    have hl' : ∀ j o', l[j]? = some o' → ops[i + 1 + j]? = some o' := fun j o' hj => by have := hl (j + 1) o' (by simpa using hj); simpa [Nat.add_assoc, Nat.add_comm 1 j] using this
    have build : ∀ (v : AV) (H1 : Heap) (k1 : List (Nat × Nat × Nat)), QS P ex ops bef i o env H kept v H1 k1 → runQuiet P ex ops bef (i + 1) l (putE env o.dst v) H1 k1 = some (env', H') →
        ∃ (e : Nat → List AV) (h : Nat → Heap) (kp : Nat → List (Nat × Nat × Nat)) (val : Nat → AV), e i = env ∧ h i = H ∧ kp i = kept ∧ e (i + (o :: l).length) = env' ∧ h (i + (o :: l).length) = H' ∧
          ∀ j, i ≤ j → j < i + (o :: l).length → ∃ o, ops[j]? = some o ∧ QS P ex ops bef j o (e j) (h j) (kp j) (val j) (h (j + 1)) (kp (j + 1)) ∧ e (j + 1) = putE (e j) o.dst (val j) := by
      intro v H1 k1 hq hr
      obtain ⟨e, h, kp, val, e1, e2, e3, e4, e5, e6⟩ := runQuiet_trace ops bef l (i + 1) _ H1 k1 env' H' hl' hr
      refine ⟨fun j => if j = i then env else e j, fun j => if j = i then H else h j, fun j => if j = i then kept else kp j, fun j => if j = i then v else val j, by simp, by simp, by simp, ?_, ?_, fun j h1 h2 => ?_⟩
      · dsimp only; rw [if_neg (by simp), ← e4]; congr 1; simp; omega
      · dsimp only; rw [if_neg (by simp), ← e5]; congr 1; simp; omega
      · by_cases hj : j = i
        · subst hj
          refine ⟨o, ho, ?_, ?_⟩
          · dsimp only; rw [if_pos rfl, if_pos rfl, if_pos rfl, if_pos rfl, if_neg (by omega), if_neg (by omega), e2, e3]; exact hq
          · dsimp only; rw [if_pos rfl, if_pos rfl, if_neg (by omega), e1]
        · obtain ⟨o', h3, h4, h5⟩ := e6 j (by omega) (by simp at h2; omega)
          refine ⟨o', h3, ?_, ?_⟩
          · dsimp only; rw [if_neg hj, if_neg hj, if_neg hj, if_neg hj, if_neg (by omega), if_neg (by omega)]; exact h4
          · dsimp only; rw [if_neg hj, if_neg hj, if_neg (by omega)]; exact h5
    simp only [runQuiet] at h
    split at h
    · rename_i hw
      split at h
      · rename_i hf
        split at h
        · rename_i v H1 hop
          split at h
          · rename_i hc
            simp only [Bool.and_eq_true] at hc
            exact build v H1 _ (.inr (.inl ⟨hw, hf, hop, hc.1, hc.2, rfl⟩)) h
          · cases h
        · cases h
      · split at h
        · rename_i v H1 hop
          split at h
          · cases h
          · rename_i hv
            have hv' : v.all (visA (bef.getD i 0) kept) = true := by simpa using hv
            split at h
            · rename_i hc
              exact build v H kept (.inr (.inr ⟨hw, H1, hop, hv', .inl ⟨rfl, rfl, by simpa using hc⟩⟩)) h
            · split at h
              · cases h
              · rename_i hn
                exact build v _ _ (.inr (.inr ⟨hw, H1, hop, hv', .inr ⟨by simpa using hn, rfl, rfl⟩⟩)) h
        · cases h
    · rename_i hw
      exact build undefA H kept (.inl ⟨by simpa using hw, rfl, rfl, rfl⟩) h

/-- operations that are free of the heap -/
theorem heapFree_indep [E : Env] {env : List AV} {o : Oper} {v : AV} {H' : Heap} (hf : heapFree o.op = true) (h : opA P ex lo env H o = some (v, H')) (K : Heap) (hK : K.next = H.next) :
    (H' = H ∧ opA P ex lo env K o = some (v, K)) ∨ ∃ x, H' = H.push x ∧ opA P ex lo env K o = some (v, K.push x) := by
  have hna : opA P ex lo env H o = aop P lo env H o ∧ opA P ex lo env K o = aop P lo env K o := by
    constructor <;> (unfold opA; split <;> first | rfl | (rename_i hop; rw [hop] at hf; simp [heapFree] at hf))
  rw [hna.1] at h
  rw [hna.2]
  obtain ⟨dst, op, type, pos, after, guard⟩ := o
  have pureCase : ∀ (r : Option AV), r.map (fun v => (v, H)) = some (v, H') → (H' = H ∧ r.map (fun v => (v, K)) = some (v, K)) := fun r hr => by
    obtain ⟨y, hy, e⟩ := map1 hr; cases e; exact ⟨rfl, by simp [hy]⟩
  cases op <;> simp [heapFree] at hf
  case move x => exact .inl (pureCase _ h)
  case assign x => exact .inl (pureCase _ h)
  case pick c a b =>
    simp only [aop] at h ⊢
    split at h
    · exact .inl (pureCase _ h)
    · cases h
  case alloc t =>
    simp only [aop] at h ⊢
    cases hz : zeroA P t with
    | none => simp [hz] at h
    | some z =>
      cases hs : sizeA P t with
      | none => simp [hz, hs] at h
      | some sz =>
        simp only [hz, hs] at h ⊢
        split at h
        · rename_i hc; cases h; exact .inr ⟨_, rfl, by rw [if_pos hc, hK]⟩
        · cases h
  case box t x =>
    simp only [aop] at h ⊢
    cases hz : evalO env x with
    | none => simp [hz] at h
    | some z =>
      cases hs : sizeA P t with
      | none => simp [hz, hs] at h
      | some sz =>
        simp only [hz, hs] at h ⊢
        split at h
        · rename_i hc; cases h; exact .inr ⟨_, rfl, by rw [if_pos hc, hK]⟩
        · cases h
  case build t ps =>
    obtain ⟨q, hq, h⟩ := bind1 h
    simp only [aop, hq, Option.bind_some]
    exact .inl (pureCase _ h)
  case buildSlice t len ps =>
    obtain ⟨q, hq, h⟩ := bind1 h
    simp only [aop, hq, Option.bind_some]
    unfold buildSliceA at h ⊢
    split at h
    · split at h
      · split at h
        · rename_i hc
          split at h
          · rename_i cs hcs; cases h; exact .inr ⟨_, rfl, by simp [hc, hcs, hK, *]⟩
          · cases h
        · cases h
      · cases h
    · cases h
  case nilCheck x =>
    simp only [aop] at h ⊢
    split at h <;> cases h <;> exact .inl ⟨rfl, by simp [*]⟩
  case binOp op t x y yt =>
    obtain ⟨p, hp, h⟩ := bind1 h
    obtain ⟨q, hq, h⟩ := bind1 h
    simp only [aop, hp, hq, Option.bind_some]
    exact .inl (pureCase _ h)
  case unOp op t x =>
    obtain ⟨p, hp, h⟩ := bind1 h
    simp only [aop, hp, Option.bind_some]
    exact .inl (pureCase _ h)
  case makeInterface t x =>
    simp only [aop] at h ⊢
    split at h
    · cases h
    · cases h
    · exact .inl (pureCase _ h)
  case makeFunc fn first cap =>
    cases fn with
    | func f =>
      simp only [aop] at h ⊢
      obtain ⟨p, hp, h⟩ := bind1 h
      obtain ⟨q, hq, h⟩ := bind1 h
      cases h
      exact .inl ⟨rfl, by simp [hp, hq]⟩
    | _ => simp [aop] at h
  case makeMap t r =>
    cases r with
    | none => simp only [aop] at h ⊢; cases h; exact .inr ⟨_, rfl, by rw [hK]⟩
    | some x =>
      simp only [aop] at h ⊢
      split at h
      · cases h; exact .inr ⟨_, rfl, by simp [hK, *]⟩
      · cases h
  case makeSlice t l c =>
    obtain ⟨p, hp, h⟩ := bind1 h
    obtain ⟨q, hq, h⟩ := bind1 h
    simp only [aop, hp, hq, Option.bind_some]
    unfold makeSliceA at h ⊢
    split at h
    · split at h
      · split at h
        · rename_i hc; cases h; exact .inr ⟨_, rfl, by simp only [*, if_true]⟩
        · cases h
      · cases h
    · cases h
  case fieldAddr t x i =>
    obtain ⟨p, hp, h⟩ := bind1 h
    simp only [aop, hp, Option.bind_some]
    exact .inl (pureCase _ h)
  case field t x i =>
    obtain ⟨p, hp, h⟩ := bind1 h
    simp only [aop, hp, Option.bind_some]
    exact .inl (pureCase _ h)
  case indexAddr t x i =>
    obtain ⟨p, hp, h⟩ := bind1 h
    obtain ⟨q, hq, h⟩ := bind1 h
    simp only [aop, hp, hq, Option.bind_some]
    exact .inl (pureCase _ h)
  case index t x i =>
    obtain ⟨p, hp, h⟩ := bind1 h
    obtain ⟨q, hq, h⟩ := bind1 h
    simp only [aop, hp, hq, Option.bind_some]
    exact .inl (pureCase _ h)
  case extract x i =>
    simp only [aop] at h ⊢
    split at h
    · exact .inl (pureCase _ h)
    · cases h

theorem copyR_get (K : Heap) (b : Nat) : ∀ (n a : Nat) (H : Heap), (copyR H K a n).get b = if a ≤ b ∧ b < a + n then K.get b else H.get b
  | 0, a, H => by simp only [copyR]; rw [if_neg (by omega)]
  | n + 1, a, H => by
    simp only [copyR]
    rw [copyR_get K b n (a + 1) (H.setO a (K.get a)), Heap.get_setO]
    by_cases e : b = a
    · subst e
      rw [if_neg (by omega), if_pos rfl, if_pos (by omega)]
    · by_cases h : a + 1 ≤ b ∧ b < a + 1 + n
      · rw [if_pos h, if_pos (by omega)]
      · rw [if_neg h, if_neg e, if_neg (by omega)]
theorem growH_get [E : Env] (H K : Heap) (b : Nat) : (growH H K).get b = if H.next ≤ b ∧ b < H.next + (K.next - H.next) then K.get b else H.get b := copyR_get K b _ _ H
theorem hideR_get (b : Nat) : ∀ (n a : Nat) (H : Heap), (hideR H a n).get b = if a ≤ b ∧ b < a + n then none else H.get b
  | 0, a, H => by simp only [hideR]; rw [if_neg (by omega)]
  | n + 1, a, H => by
    simp only [hideR]
    rw [hideR_get b n (a + 1) (H.kill a), Heap.get_kill]
    by_cases e : b = a
    · subst e
      rw [if_neg (by omega), if_pos rfl, if_pos (by omega)]
    · by_cases h : a + 1 ≤ b ∧ b < a + 1 + n
      · rw [if_pos h, if_pos (by omega)]
      · rw [if_neg h, if_neg e, if_neg (by omega)]
theorem hideR_next : ∀ (n a : Nat) (H : Heap), (hideR H a n).next = H.next
  | 0, _, _ => rfl
  | n + 1, a, H => by simp only [hideR]; rw [hideR_next]; rfl
theorem viewA_next [E : Env] (bef : Nat) : ∀ (kept : List (Nat × Nat × Nat)) (H : Heap), (viewA H bef kept).next = H.next
  | [], _ => rfl
  | (j, a, n) :: rest, H => by
    simp only [viewA]
    rw [viewA_next bef rest]
    split
    · rfl
    · exact hideR_next _ _ _
theorem viewA_get [E : Env] (bef : Nat) : ∀ (kept : List (Nat × Nat × Nat)) (H : Heap) (b : Nat) (x : Blk), (viewA H bef kept).get b = some x → H.get b = some x ∧ ∀ q ∈ kept, bef.testBit q.1 = false → ¬ (q.2.1 ≤ b ∧ b < q.2.1 + q.2.2)
  | [], _, _, _, h => ⟨h, by simp⟩
  | (j, a, n) :: rest, H, b, x, h => by
    simp only [viewA] at h
    obtain ⟨h1, h2⟩ := viewA_get bef rest _ b x h
    split at h1
    · rename_i hj
      refine ⟨h1, fun q hq hqb => ?_⟩
      rcases List.mem_cons.1 hq with rfl | hq
      · simp [hj] at hqb
      · exact h2 q hq hqb
    · rw [hideR_get] at h1
      split at h1
      · cases h1
      · rename_i hn
        refine ⟨h1, fun q hq hqb => ?_⟩
        rcases List.mem_cons.1 hq with rfl | hq
        · exact hn
        · exact h2 q hq hqb

theorem onlyReads_heap [E : Env] {env : List AV} {o : Oper} {v : AV} {H' : Heap} (hf : onlyReads o.op = true) (h : opA P ex lo env H o = some (v, H')) : H' = H := by
  have hna : opA P ex lo env H o = aop P lo env H o := by
    unfold opA; split <;> first | rfl | (rename_i hop; rw [hop] at hf; simp [onlyReads] at hf)
  rw [hna] at h
  obtain ⟨dst, op, type, pos, after, guard⟩ := o
  cases op <;> simp [onlyReads] at hf
  case load t a =>
    obtain ⟨x, hx, h⟩ := bind1 h
    obtain ⟨y, hy, e⟩ := map1 h; cases e; rfl
  case slice t x l hi mx =>
    simp only [aop] at h
    split at h
    · cases h
    · obtain ⟨q, hq, h⟩ := bind1 h
      split at h
      · cases h
      · cases h
      · obtain ⟨y, hy, e⟩ := map1 h; cases e; rfl
  case lookup t x i ok =>
    obtain ⟨p, hp, h⟩ := bind1 h
    obtain ⟨q, hq, h⟩ := bind1 h
    obtain ⟨y, hy, e⟩ := map1 h; cases e; rfl
end
end Go.Ab
/-! The abstract interpreter is sound, 13: regions whose order is open: whatever order the machine draws. Conditions: none. -/
set_option linter.unusedSimpArgs false
set_option linter.unusedVariables false
namespace Go.Ab
open Go Go.RowKit

def dstOf (ops : Array Oper) (i : Nat) : Option Tmp := (ops[i]?).bind (·.dst)
/-- what temporary t holds when the operations below i that D lists have been carried out in the text's order -/
def valT (ops : Array Oper) (env0 : List AV) (val : Nat → AV) (D : Nat → Bool) : Nat → Nat → Option AV
  | 0, t => env0[t]?
  | i + 1, t => if D i = true ∧ dstOf ops i = some t ∧ t < env0.length then some (val i) else valT ops env0 val D i t

section
variable {P : Program} {w0 : World} {base lo : Nat} {ι ι1 ι2 : Inj} {H H1 H2 : Heap} {w w1 w2 : World} {ex : ExF}

theorem testBit_foldl (bef : Array Nat) (j : Nat) : ∀ (l : List Edge) (s : Nat), (l.foldl (fun s e => if Region.binds .any e then s ||| 2 ^ e.on ||| bef.getD e.on 0 else s) s).testBit j = true →
    s.testBit j = true ∨ ∃ e ∈ l, Region.binds .any e = true ∧ (j = e.on ∨ (bef.getD e.on 0).testBit j = true)
  | [], s, h => .inl h
  | e :: l, s, h => by
    simp only [List.foldl_cons] at h
    rcases testBit_foldl bef j l _ h with h | ⟨e', he', h1, h2⟩
    · split at h
      · rename_i hb
        rw [Nat.testBit_or, Nat.testBit_or, Nat.testBit_two_pow] at h
        simp only [Bool.or_eq_true, decide_eq_true_eq] at h
        rcases h with (h | h) | h
        · exact .inl h
        · exact .inr ⟨e, by simp, hb, .inl h.symm⟩
        · exact .inr ⟨e, by simp, hb, .inr h⟩
      · exact .inl h
    · exact .inr ⟨e', by simp [he'], h1, h2⟩

/-- what a region's order rests on -/
structure Order (ops : Array Oper) (bef : Array Nat) : Prop where
  via : ∀ i o j, ops[i]? = some o → (bef.getD i 0).testBit j = true → ∃ e ∈ o.after.toList, Region.binds .any e = true ∧ (j = e.on ∨ (bef.getD e.on 0).testBit j = true)
  back : ∀ i o, ops[i]? = some o → ∀ e ∈ o.after.toList, Region.binds .any e = true → e.on < i

theorem edgesOk_back : ∀ (l : List Oper) (i : Nat), edgesOk i l = true → ∀ j o, l[j]? = some o → ∀ e ∈ o.after.toList, Region.binds .any e = true → e.on < i + j
  | [], i, _, j, o, ho, _, _, _ => by simp at ho
  | x :: l, i, h, j, o, ho, e, he, hb => by
    simp only [edgesOk, Bool.and_eq_true] at h
    cases j with
    | zero =>
      simp only [List.getElem?_cons_zero, Option.some.injEq] at ho
      subst ho
      have := Array.all_eq_true'.1 h.1 e (by simpa using he)
      simp [hb] at this
      simpa using this
    | succ j =>
      have := edgesOk_back l (i + 1) h.2 j o (by simpa using ho) e he hb
      omega

theorem order_of [E : Env] {ops : Array Oper} {bef : Array Nat} (h1 : edgesOk 0 ops.toList = true) (h2 : befOk ops bef = true) : Order ops bef where
  via := fun i o j ho hj => by
    have hi : i < ops.size := (Array.getElem?_eq_some_iff.1 ho).1
    simp only [befOk, Bool.and_eq_true] at h2
    have := List.all_eq_true.1 h2.2 i (List.mem_range.2 hi)
    simp only [ho, beq_iff_eq] at this
    rw [this] at hj
    rcases testBit_foldl bef j _ 0 hj with h | h
    · simp at h
    · exact h
  back := fun i o ho e he hb => by
    have := edgesOk_back ops.toList 0 h1 i o (by simpa using ho) e he hb
    omega

theorem Order.bits {ops : Array Oper} {bef : Array Nat} (r : Order ops bef) (hn : ∀ i, ops.size ≤ i → bef.getD i 0 = 0) : ∀ i j, (bef.getD i 0).testBit j = true → j < i := by
  intro i
  induction i using Nat.strongRecOn with
  | _ i ih =>
    intro j hj
    by_cases hi : i < ops.size
    · have ho : ops[i]? = some ops[i] := Array.getElem?_eq_getElem hi
      obtain ⟨e, he, hb, h⟩ := r.via i _ j ho hj
      have hlt := r.back i _ ho e he hb
      rcases h with rfl | h
      · exact hlt
      · exact Nat.lt_trans (ih _ hlt j h) hlt
    · rw [hn i (by omega)] at hj; simp at hj

theorem afterAll_iff (b : Nat) : ∀ i, afterAll b i = true ↔ ∀ j, j < i → b.testBit j = true
  | 0 => by simp [afterAll]
  | i + 1 => by
    simp only [afterAll, Bool.and_eq_true, afterAll_iff b i]
    constructor
    · rintro ⟨h1, h2⟩ j hj
      by_cases e : j = i
      · subst e; exact h1
      · exact h2 j (by omega)
    · intro h; exact ⟨h i (by omega), fun j hj => h j (by omega)⟩
theorem quietLen_le (bef : Array Nat) : ∀ n, quietLen bef n ≤ n
  | 0 => by simp [quietLen]
  | n + 1 => by simp only [quietLen]; split; have := quietLen_le bef n; omega; omega
theorem quietLen_after (bef : Array Nat) : ∀ n i, quietLen bef n ≤ i → i < n → afterAll (bef.getD i 0) i = true
  | 0, i, _, h => by omega
  | n + 1, i, h1, h2 => by
    simp only [quietLen] at h1
    split at h1
    · rename_i ha
      by_cases e : i = n
      · subst e; exact ha
      · exact quietLen_after bef n i h1 (by omega)
    · omega

/-! ### the machine's order -/
theorem ready_iff {ops : Array Oper} {listed : Array Bool} {i : Nat} (hs : listed.size = ops.size) : i ∈ Region.ready .any ops listed ↔ ∃ o, ops[i]? = some o ∧ listed.getD i false = false ∧ ∀ e ∈ o.after.toList, Region.binds .any e = true → listed.getD e.on false = true := by
  unfold Region.ready
  rw [List.mem_filter, List.mem_range]
  constructor
  · rintro ⟨hi, h⟩
    have ho : ops[i]? = some ops[i] := Array.getElem?_eq_getElem hi
    rw [ho] at h
    simp only [Bool.and_eq_true, Bool.not_eq_true', Option.map_some, Option.getD_some] at h
    refine ⟨_, ho, ?_, fun e he hb => ?_⟩
    · have : listed[i]? = some listed[i] := Array.getElem?_eq_getElem (by omega)
      simp only [Array.getD_eq_getD_getElem?, this, Option.getD_some] at h ⊢; exact h.1
    · have := Array.all_eq_true'.1 h.2 e (by simpa using he)
      simpa [hb] using this
  · rintro ⟨o, ho, h1, h2⟩
    have hi : i < ops.size := (Array.getElem?_eq_some_iff.1 ho).1
    refine ⟨hi, ?_⟩
    rw [ho]
    simp only [Bool.and_eq_true, Bool.not_eq_true', Option.map_some, Option.getD_some]
    refine ⟨?_, Array.all_eq_true'.2 fun e he => ?_⟩
    · have : listed[i]? = some listed[i] := Array.getElem?_eq_getElem (by omega)
      simp only [Array.getD_eq_getD_getElem?, this, Option.getD_some] at h1 ⊢; exact h1
    · cases hb : Region.binds .any e with
      | false => simp
      | true => simpa using h2 e (by simpa using he) hb

theorem go_step (ops : Array Oper) (fuel t : Nat) (listed : Array Bool) (hne : Region.ready .any ops listed ≠ []) :
    ∃ i t', i ∈ Region.ready .any ops listed ∧ Region.linearise.go .any ops (fuel + 1) t listed [] = i :: Region.linearise.go .any ops fuel t' (listed.setIfInBounds i true) [] := by
  have hlen : 0 < (Region.ready .any ops listed).length := List.length_pos_iff.2 hne
  have hlt : t % (Region.ready .any ops listed).length < (Region.ready .any ops listed).length := Nat.mod_lt _ hlen
  refine ⟨(Region.ready .any ops listed)[t % (Region.ready .any ops listed).length], t / (Region.ready .any ops listed).length, List.getElem_mem hlt, ?_⟩
  simp only [Region.linearise.go]
  change (match (Region.ready .any ops listed)[t % (Region.ready .any ops listed).length]? with
      | some i => Region.linearise.go .any ops fuel (t / (Region.ready .any ops listed).length) (listed.setIfInBounds i true) [i]
      | none => [].reverse) = _
  rw [List.getElem?_eq_getElem hlt]
  simp only
  rw [linearise_go_acc]
  rfl

/-- some operation is ready while one is not listed -/
theorem ready_ne [E : Env] {ops : Array Oper} {bef : Array Nat} (r : Order ops bef) {listed : Array Bool} (hs : listed.size = ops.size) {i : Nat} (hi : i < ops.size) (hl : listed.getD i false = false) : Region.ready .any ops listed ≠ [] := by
  have key : ∀ i, i < ops.size → listed.getD i false = false → ∃ j, j ∈ Region.ready .any ops listed := by
    intro i
    induction i using Nat.strongRecOn with
    | _ i ih =>
      intro hi hl
      have ho : ops[i]? = some ops[i] := Array.getElem?_eq_getElem hi
      by_cases hall : ∀ e ∈ ops[i].after.toList, Region.binds .any e = true → listed.getD e.on false = true
      · exact ⟨i, (ready_iff hs).2 ⟨_, ho, hl, hall⟩⟩
      · have : ∃ e ∈ ops[i].after.toList, Region.binds .any e = true ∧ listed.getD e.on false = false := by
          apply Classical.byContradiction
          intro hn
          apply hall
          intro e he hb
          cases hx : listed.getD e.on false with
          | true => rfl
          | false => exact absurd ⟨e, he, hb, hx⟩ hn
        obtain ⟨e, he, hb, hx⟩ := this
        have hlt := r.back i _ ho e he hb
        exact ih e.on hlt (by omega) hx
  obtain ⟨j, hj⟩ := key i hi hl
  exact List.ne_nil_of_mem hj

theorem getD_set (listed : Array Bool) (i j : Nat) (hi : i < listed.size) : (listed.setIfInBounds i true).getD j false = if j = i then true else listed.getD j false := by
  simp only [Array.getD_eq_getD_getElem?]
  by_cases e : j = i
  · subst e; rw [if_pos rfl, Array.getElem?_setIfInBounds_self_of_lt hi]; rfl
  · rw [if_neg e, Array.getElem?_setIfInBounds_ne (fun h => e h.symm)]

/-- from m on the order is the text's -/
theorem seqOrder [E : Env] {ops : Array Oper} {bef : Array Nat} (r : Order ops bef) (hn : ∀ i, ops.size ≤ i → bef.getD i 0 = 0) : ∀ (k j t : Nat) (listed : Array Bool), listed.size = ops.size → j + k = ops.size → (∀ i, i < ops.size → listed.getD i false = decide (i < j)) →
    (∀ i, j ≤ i → i < ops.size → afterAll (bef.getD i 0) i = true) → Region.linearise.go .any ops k t listed [] = List.range' j k
  | 0, j, t, listed, _, _, _, _ => rfl
  | k + 1, j, t, listed, hs, hk, hl, ha => by
    have hj : j < ops.size := by omega
    obtain ⟨i, t', hi, hgo⟩ := go_step ops k t listed (ready_ne r hs hj (by rw [hl j hj]; simp))
    obtain ⟨o, ho, h1, h2⟩ := (ready_iff hs).1 hi
    have hio : i < ops.size := (Array.getElem?_eq_some_iff.1 ho).1
    rw [hl i hio] at h1
    have hge : j ≤ i := by simpa using h1
    have hij : i = j := by
      apply Classical.byContradiction
      intro hne
      have hbit := (afterAll_iff _ i).1 (ha i hge hio) j (by omega)
      obtain ⟨e, he, hb, h⟩ := r.via i o j ho hbit
      have hlisted := h2 e he hb
      have hlt := r.back i o ho e he hb
      rw [hl e.on (by omega)] at hlisted
      have hej : e.on < j := by simpa using hlisted
      rcases h with h | h
      · omega
      · have := r.bits hn _ _ h; omega
    subst hij
    rw [hgo, List.range'_succ]
    congr 1
    exact seqOrder r hn k (i + 1) t' _ (by simpa using hs) (by omega) (fun q hq => by
      rw [getD_set _ _ _ (by omega)]
      by_cases e : q = i
      · subst e; simp
      · rw [if_neg e, hl q hq]
        have : (q < i) ↔ (q < i + 1) := by omega
        simp [this]) (fun q h1 h2 => ha q (by omega) h2)
end
end Go.Ab
/-! The abstract interpreter is sound, 14: a quiet operation, at whatever place of the machine's order. Conditions: none. -/
set_option linter.unusedSimpArgs false
set_option linter.unusedVariables false
namespace Go.Ab
open Go Go.RowKit

mutual
theorem conc_all {p : Nat → Bool} {ι ι' : Inj} (h : ∀ b, p b = true → ι' b = ι b) : ∀ v : AV, v.all p = true → v.conc ι' = v.conc ι
  | .bool _, _ | .int _ _, _ | .str _, _ | .nilp, _ | .nilf, _ | .nili, _ | .map none, _ => rfl
  | .ptr b _, k => by simp only [AV.all] at k; simp [AV.conc, h b k]
  | .sl b _ _ _, k => by simp only [AV.all] at k; simp [AV.conc, h b k]
  | .map (some b), k => by simp only [AV.all] at k; simp [AV.conc, h b k]
  | .yieldf b, k => by simp only [AV.all] at k; simp [AV.conc, h b k]
  | .rptr _ _, _ | .rsl _ _ _ _, _ => rfl
  | .func _ a b, k => by simp only [AV.all, Bool.and_eq_true] at k; simp only [AV.conc, concL_all h a k.1, concL_all h b k.2]
  | .iface _ v, k => by simp only [AV.all] at k; simp only [AV.conc, conc_all h v k]
  | .agg l, k | .tup l, k => by simp only [AV.all] at k; simp only [AV.conc, concL_all h l k]
theorem concL_all {p : Nat → Bool} {ι ι' : Inj} (h : ∀ b, p b = true → ι' b = ι b) : ∀ l : List AV, AV.allL p l = true → AV.concL ι' l = AV.concL ι l
  | [], _ => rfl
  | v :: vs, k => by simp only [AV.allL, Bool.and_eq_true] at k; simp only [AV.concL, conc_all h v k.1, concL_all h vs k.2]
end
mutual
theorem all_and {p q : Nat → Bool} : ∀ v : AV, v.all p = true → v.all q = true → v.all (fun b => p b && q b) = true
  | .bool _, _, _ | .int _ _, _, _ | .str _, _, _ | .nilp, _, _ | .nilf, _, _ | .nili, _, _ | .map none, _, _ | .rptr _ _, _, _ | .rsl _ _ _ _, _, _ => rfl
  | .ptr b _, h, k | .sl b _ _ _, h, k | .map (some b), h, k | .yieldf b, h, k => by simp only [AV.all] at h k ⊢; simp [h, k]
  | .func _ a b, h, k => by simp only [AV.all, Bool.and_eq_true] at h k ⊢; exact ⟨allL_and a h.1 k.1, allL_and b h.2 k.2⟩
  | .iface _ v, h, k => by simp only [AV.all] at h k ⊢; exact all_and v h k
  | .agg l, h, k | .tup l, h, k => by simp only [AV.all] at h k ⊢; exact allL_and l h k
theorem allL_and {p q : Nat → Bool} : ∀ l : List AV, AV.allL p l = true → AV.allL q l = true → AV.allL (fun b => p b && q b) l = true
  | [], _, _ => rfl
  | v :: vs, h, k => by simp only [AV.allL, Bool.and_eq_true] at h k ⊢; exact ⟨all_and v h.1 k.1, allL_and vs h.2 k.2⟩
end
mutual
theorem all_lt {w0 : World} {base n : Nat} : ∀ v : AV, v.OK w0 base n → v.all (fun b => decide (b < n)) = true
  | .bool _, _ | .int _ _, _ | .str _, _ | .nilp, _ | .nilf, _ | .nili, _ | .map none, _ | .rptr _ _, _ | .rsl _ _ _ _, _ => rfl
  | .ptr b _, k | .sl b _ _ _, k | .map (some b), k | .yieldf b, k => by simp only [AV.OK] at k; simp [AV.all, k]
  | .func _ a b, k => by simp only [AV.OK] at k; simp only [AV.all, Bool.and_eq_true]; exact ⟨allL_lt a k.1, allL_lt b k.2⟩
  | .iface _ v, k => by simp only [AV.OK] at k; simp only [AV.all]; exact all_lt v k
  | .agg l, k | .tup l, k => by simp only [AV.OK] at k; simp only [AV.all]; exact allL_lt l k
theorem allL_lt {w0 : World} {base n : Nat} : ∀ l : List AV, AV.OKL w0 base n l → AV.allL (fun b => decide (b < n)) l = true
  | [], _ => rfl
  | v :: vs, k => by simp only [AV.OKL] at k; simp only [AV.allL, Bool.and_eq_true]; exact ⟨all_lt v k.1, allL_lt vs k.2⟩
end
theorem allL_iff (p : Nat → Bool) : ∀ l : List AV, AV.allL p l = true ↔ ∀ v ∈ l, v.all p = true
  | [] => by simp [AV.allL]
  | v :: vs => by simp [AV.allL, allL_iff p vs]

section
variable {P : Program} {w0 : World} {base lo : Nat} {ι ι1 ι2 : Inj} {H H1 H2 : Heap} {w w1 w2 : World} {ex : ExF}

theorem BlkRel.all [E : Env] {p : Nat → Bool} (h : ∀ b, p b = true → ι1 b = ι b) {x : Blk} (k : x.all p = true) {cap : Nat} {o : Option Obj} (r : BlkRel P ι cap o x) : BlkRel P ι1 cap o x := by
  cases x with
  | cells t cs =>
    obtain ⟨c, ho, ⟨rest, hr⟩, hs⟩ := r
    refine ⟨c, ho, ⟨rest, ?_⟩, hs⟩
    simp only [Blk.all] at k
    rw [hr, ← concL_eq, ← concL_eq, concL_all h cs k]
  | map es c =>
    simp only [BlkRel, mapEntries] at r ⊢
    simp only [Blk.all, List.all_eq_true, Bool.and_eq_true] at k
    rw [r]
    congr 2
    refine congrArg List.toArray (List.map_congr_left fun e he => ?_)
    rw [conc_all h _ (k e he).1, conc_all h _ (k e he).2]
  | iter s p => exact r
  | loop st pend fn tmps params assign body d =>
    simp only [Blk.all, Bool.and_eq_true] at k
    simp only [BlkRel] at r ⊢
    rw [r, ← concL_eq, ← concL_eq, concL_all h tmps k.1, h d k.2]
  | dfr => exact r
theorem BlkOK.all_lt [E : Env] {n : Nat} {x : Blk} (k : BlkOK w0 base n x) : x.all (fun b => decide (b < n)) = true := by
  cases x with
  | cells t cs => simp only [Blk.all]; exact allL_lt cs ((OKL_iff ..).2 k)
  | map es c => simp only [Blk.all, List.all_eq_true, Bool.and_eq_true]; exact fun e he => ⟨Go.Ab.all_lt _ (k e he).1, Go.Ab.all_lt _ (k e he).2⟩
  | loop st pend fn tmps params assign body d => simp only [Blk.all, Bool.and_eq_true]; exact ⟨allL_lt tmps ((OKL_iff ..).2 k.1), by simpa using k.2⟩
  | _ => rfl
theorem Blk.all_and [E : Env] {p q : Nat → Bool} {x : Blk} (h : x.all p = true) (k : x.all q = true) : x.all (fun b => p b && q b) = true := by
  cases x with
  | cells t cs => simp only [Blk.all] at h k ⊢; exact allL_and cs h k
  | map es c =>
    simp only [Blk.all, List.all_eq_true, Bool.and_eq_true] at h k ⊢
    exact fun e he => ⟨Go.Ab.all_and _ (h e he).1 (k e he).1, Go.Ab.all_and _ (h e he).2 (k e he).2⟩
  | loop st pend fn tmps params assign body d => simp only [Blk.all, Bool.and_eq_true] at h k ⊢; exact ⟨allL_and tmps h.1 k.1, h.2, k.2⟩
  | _ => rfl

/-- the quiet operations as the interpreter took them, in the text's order -/
structure Trace [E : Env] (P : Program) (ex : ExF) (ops : Array Oper) (bef : Array Nat) (m : Nat) (e : Nat → List AV) (h : Nat → Heap) (kp : Nat → List (Nat × Nat × Nat)) (val : Nat → AV) : Prop where
  k0 : kp 0 = []
  step : ∀ j, j < m → ∃ o, ops[j]? = some o ∧ QS P ex ops bef j o (e j) (h j) (kp j) (val j) (h (j + 1)) (kp (j + 1)) ∧ e (j + 1) = putE (e j) o.dst (val j)

section
variable {ops : Array Oper} {bef : Array Nat} {m : Nat} {e : Nat → List AV} {h : Nat → Heap} {kp : Nat → List (Nat × Nat × Nat)} {val : Nat → AV}

/-- how the heap and what is noted of it go on -/
theorem Trace.one [E : Env] (T : Trace P ex ops bef m e h kp val) {j : Nat} (hj : j < m) :
    (h j).next ≤ (h (j + 1)).next ∧ (∀ b, b < (h j).next → (h (j + 1)).get b = (h j).get b) ∧
    ((kp (j + 1) = kp j ∧ (h (j + 1)).next = (h j).next) ∨ kp (j + 1) = (j, (h j).next, (h (j + 1)).next - (h j).next) :: kp j) := by
  obtain ⟨o, ho, hq, _⟩ := T.step j hj
  rcases hq with ⟨_, _, h1, h2⟩ | ⟨_, hf, hop, _, _, h2⟩ | ⟨_, K, hop, _, ⟨h1, h2, _⟩ | ⟨_, h1, h2⟩⟩
  · rw [h1, h2]; exact ⟨Nat.le_refl _, fun _ _ => rfl, .inl ⟨rfl, rfl⟩⟩
  · rcases heapFree_indep hf hop (h j) rfl with ⟨h1, _⟩ | ⟨x, h1, _⟩
    · rw [h1] at h2 ⊢
      simp only [if_true] at h2
      exact ⟨Nat.le_refl _, fun _ _ => rfl, .inl ⟨h2, rfl⟩⟩
    · rw [h1] at h2 ⊢
      refine ⟨by simp, fun b hb => by rw [Heap.get_push, if_neg (by omega)], .inr ?_⟩
      rw [h2, if_neg (by simp)]
  · rw [h1, h2]; exact ⟨Nat.le_refl _, fun _ _ => rfl, .inl ⟨rfl, rfl⟩⟩
  · rw [h1, h2]
    refine ⟨by simp [growH], fun b hb => by rw [growH_get, if_neg (by omega)], .inr ?_⟩
    simp [growH]
theorem Trace.mono [E : Env] (T : Trace P ex ops bef m e h kp val) : ∀ i j, i ≤ j → j ≤ m → (h i).next ≤ (h j).next ∧ ∀ b, b < (h i).next → (h j).get b = (h i).get b := by
  intro i j hij
  induction hij with
  | refl => exact fun _ => ⟨Nat.le_refl _, fun _ _ => rfl⟩
  | step hij ih =>
    rename_i j
    intro hj
    obtain ⟨h1, h2⟩ := ih (by omega)
    obtain ⟨h3, h4, _⟩ := T.one (j := j) (by omega)
    exact ⟨Nat.le_trans h1 h3, fun b hb => (h4 b (by omega)).trans (h2 b hb)⟩
theorem Trace.kept [E : Env] (T : Trace P ex ops bef m e h kp val) : ∀ i, i ≤ m → (∀ q ∈ kp i, q.1 < i ∧ q.2.1 = (h q.1).next ∧ q.2.1 + q.2.2 = (h (q.1 + 1)).next) ∧ ∀ j, j < i → (h j).next < (h (j + 1)).next → ∃ q ∈ kp i, q.1 = j
  | 0, _ => by rw [T.k0]; exact ⟨by simp, fun j hj => by omega⟩
  | i + 1, hi => by
    obtain ⟨k1, k2⟩ := T.kept i (by omega)
    obtain ⟨h1, _, h3⟩ := T.one (j := i) (by omega)
    rcases h3 with ⟨h3, h4⟩ | h3
    · rw [h3]
      refine ⟨fun q hq => ?_, fun j hj hlt => ?_⟩
      · obtain ⟨a, b⟩ := k1 q hq; exact ⟨by omega, b⟩
      · by_cases e : j = i
        · subst e; omega
        · exact k2 j (by omega) hlt
    · rw [h3]
      refine ⟨fun q hq => ?_, fun j hj hlt => ?_⟩
      · rcases List.mem_cons.1 hq with rfl | hq
        · exact ⟨by simp, rfl, by simp; omega⟩
        · obtain ⟨a, b⟩ := k1 q hq; exact ⟨by omega, b⟩
      · by_cases e : j = i
        · subst e; exact ⟨_, List.mem_cons_self, rfl⟩
        · obtain ⟨q, hq, e2⟩ := k2 j (by omega) hlt
          exact ⟨q, by simp [hq], e2⟩
theorem putE_length (env : List AV) (d : Option Tmp) (v : AV) : (putE env d v).length = env.length := by cases d <;> simp [putE]
theorem Trace.env [E : Env] (T : Trace P ex ops bef m e h kp val) : ∀ i, i ≤ m → (e i).length = (e 0).length ∧ ∀ t, (e i)[t]? = valT ops (e 0) val (fun _ => true) i t
  | 0, _ => ⟨rfl, fun t => rfl⟩
  | i + 1, hi => by
    obtain ⟨h1, h2⟩ := T.env i (by omega)
    obtain ⟨o, ho, _, he⟩ := T.step i (by omega)
    rw [he]
    refine ⟨by rw [putE_length, h1], fun t => ?_⟩
    simp only [valT, true_and]
    have hd : dstOf ops i = o.dst := by simp [dstOf, ho]
    rw [hd]
    cases hdst : o.dst with
    | none => simp [putE, h2 t]
    | some d =>
      simp only [putE, Option.some.injEq]
      rw [List.getElem?_set]
      by_cases e1 : d = t
      · subst e1
        by_cases e2 : d < (e i).length
        · rw [if_pos rfl, if_pos e2, if_pos ⟨rfl, h1 ▸ e2⟩]
        · rw [if_pos rfl, if_neg e2, if_neg (fun q => e2 (h1 ▸ q.2)), ← h2 d, List.getElem?_eq_none (Nat.le_of_not_lt e2)]
      · rw [if_neg e1, if_neg (by simp [e1]), h2 t]
end
end
end Go.Ab
/-! The abstract interpreter is sound, 15: a region whose order is open. Conditions: none. -/
set_option linter.unusedSimpArgs false
set_option linter.unusedVariables false
namespace Go.Ab
open Go Go.RowKit
section
variable {P : Program} {w0 : World} {base lo : Nat} {ι ι1 ι2 : Inj} {H H1 H2 : Heap} {w w1 w2 : World} {ex : ExF}
variable {ops : Array Oper} {bef : Array Nat} {m : Nat} {e : Nat → List AV} {h : Nat → Heap} {kp : Nat → List (Nat × Nat × Nat)} {val : Nat → AV}

/-- block b is there when the operations that D lists have been carried out -/
def Live (h : Nat → Heap) (m : Nat) (D : Nat → Bool) (b : Nat) (x : Blk) : Prop :=
  (b < (h 0).next ∧ (h 0).get b = some x) ∨ ∃ i, i < m ∧ D i = true ∧ (h i).next ≤ b ∧ b < (h (i + 1)).next ∧ (h m).get b = some x

structure Inv (P : Program) (w0 : World) (base : Nat) (ι0 : Inj) (w00 : World) (marks : List Nat) (ops : Array Oper) (bef : Array Nat) (m : Nat) (e : Nat → List AV) (h : Nat → Heap) (val : Nat → AV) (kp : Nat → List (Nat × Nat × Nat)) (D : Nat → Bool) (ι : Inj) (w : World) (a : Act) : Prop where
  dm : ∀ i, D i = true → i < m
  dc : ∀ i, D i = true → ∀ j, (bef.getD i 0).testBit j = true → D j = true
  tsz : a.tmps.size = (e 0).length
  tm : ∀ t, a.tmps[t]? = (valT ops (e 0) val D m t).map (AV.conc ι)
  vok : ∀ i, D i = true → (val i).OK w0 base (h (i + 1)).next
  vis : ∀ i, D i = true → (val i).all (visA (bef.getD i 0) (kp i)) = true
  dfs : a.defers = marks.map (markOf ι)
  ext : ∀ b, b < (h 0).next → ι b = ι0 b
  below : Below base w0 w
  inj : ∀ b b' x x', Live h m D b x → Live h m D b' x' → (ι b).1 = (ι b').1 → b = b'
  lo : ∀ b x, Live h m D b x → base ≤ (ι b).1
  rel : ∀ b x, Live h m D b x → BlkRel P ι (ι b).2 w.heap[(ι b).1]? x
  bok : ∀ i b x, D i = true → (h i).next ≤ b → b < (h (i + 1)).next → (h m).get b = some x → BlkOK w0 base (h (i + 1)).next x ∧ x.all (visA (bef.getD i 0) (kp i)) = true
  size : w00.heap.size ≤ w.heap.size
  frame : ∀ r, r < w00.heap.size → w.heap[r]? = w00.heap[r]?
  fresh : ∀ i b x, D i = true → (h i).next ≤ b → b < (h (i + 1)).next → (h m).get b = some x → w00.heap.size ≤ (ι b).1

theorem valT_le (D : Nat → Bool) (env0 : List AV) (t i : Nat) : ∀ k, i ≤ k → (∀ j, i ≤ j → j < k → D j = true → dstOf ops j ≠ some t) → valT ops env0 val D k t = valT ops env0 val D i t := by
  intro k hk
  induction hk with
  | refl => exact fun _ => rfl
  | step hk ih =>
    rename_i k
    intro hw
    rw [valT, if_neg (fun q => hw k hk (by omega) q.1 q.2.1), ih (fun j h1 h2 => hw j h1 (by omega))]
theorem valT_same (env0 : List AV) (t : Nat) (D D' : Nat → Bool) : ∀ k, (∀ j, j < k → dstOf ops j = some t → D j = D' j) → valT ops env0 val D k t = valT ops env0 val D' k t
  | 0, _ => rfl
  | k + 1, hw => by
    simp only [valT]
    rw [valT_same env0 t D D' k (fun j hj => hw j (by omega))]
    by_cases hd : dstOf ops k = some t
    · rw [hw k (by omega) hd]
    · simp [hd]
/-- what a temporary holds is of the start, or an operation's -/
theorem valT_cases (env0 : List AV) (D : Nat → Bool) (t : Nat) : ∀ (k : Nat) (v : AV), valT ops env0 val D k t = some v → (v ∈ env0) ∨ ∃ j, j < k ∧ D j = true ∧ v = val j
  | 0, v, hv => .inl (List.mem_of_getElem? hv)
  | k + 1, v, hv => by
    simp only [valT] at hv
    split at hv
    · rename_i hc; cases hv; exact .inr ⟨k, by omega, hc.1, rfl⟩
    · rcases valT_cases env0 D t k v hv with h | ⟨j, h1, h2⟩
      · exact .inl h
      · exact .inr ⟨j, by omega, h2⟩

theorem raceFree_spec (hr : raceFree ops bef = true) {i j : Nat} {x y : Oper} (hi : ops[i]? = some x) (hj : ops[j]? = some y) (hne : i ≠ j) (h1 : (bef.getD i 0).testBit j = false) (h2 : (bef.getD j 0).testBit i = false) :
    ∀ d, x.dst = some d → d ∉ needs ops y ∧ y.dst ≠ some d := by
  intro d hd
  have hi' : i < ops.size := (Array.getElem?_eq_some_iff.1 hi).1
  have hj' : j < ops.size := (Array.getElem?_eq_some_iff.1 hj).1
  have := List.all_eq_true.1 (List.all_eq_true.1 hr i (List.mem_range.2 hi')) j (List.mem_range.2 hj')
  simp only [hi, hj, h1, h2, hd, Bool.or_false, Bool.or_eq_true, beq_iff_eq, Bool.and_eq_true, Bool.not_eq_true', bne_iff_ne, ne_eq] at this
  rcases this with h | h
  · exact absurd h hne
  · refine ⟨fun hm => ?_, h.2⟩
    have := h.1
    simp [List.contains_iff_mem, hm] at this

/-- the ids that an operation j's value names, while operation i hasn't been carried out: none of i's -/
theorem ids_apart [E : Env] (T : Trace P ex ops bef m e h kp val) {D : Nat → Bool} {i j : Nat} (hi : i < m) (hj : j < m) (hDi : D i = false) (hDj : D j = true) (hdc : ∀ q, (bef.getD j 0).testBit q = true → D q = true) {b : Nat}
    (h1 : b < (h (j + 1)).next) (h2 : visA (bef.getD j 0) (kp j) b = true) : ¬ ((h i).next ≤ b ∧ b < (h (i + 1)).next) := by
  rintro ⟨h3, h4⟩
  by_cases hij : i < j
  · obtain ⟨k1, k2⟩ := T.kept j (by omega)
    obtain ⟨q, hq, hqi⟩ := k2 i hij (by omega)
    obtain ⟨_, h5, h6⟩ := k1 q hq
    have := List.all_eq_true.1 h2 q hq
    rw [hqi] at h5 h6 this
    have hb : (bef.getD j 0).testBit i = false := by
      cases hx : (bef.getD j 0).testBit i with
      | false => rfl
      | true => rw [hdc i hx] at hDi; cases hDi
    rw [hb] at this
    simp at this
    omega
  · by_cases hji : j = i
    · subst hji; rw [hDj] at hDi; cases hDi
    · have := (T.mono (j + 1) i (by omega) (by omega)).1
      omega
end
end Go.Ab
/-! The abstract interpreter is sound, 16: one quiet operation out of the machine's order. Conditions: none. -/
set_option linter.unusedSimpArgs false
set_option linter.unusedVariables false
namespace Go.Ab
open Go Go.RowKit
section
variable {P : Program} {w0 : World} {base lo : Nat} {ι ι0 ι1 ι2 : Inj} {H H1 H2 : Heap} {w w00 w1 w2 : World} {ex : ExF}
variable {ops : Array Oper} {bef : Array Nat} {m : Nat} {e : Nat → List AV} {h : Nat → Heap} {kp : Nat → List (Nat × Nat × Nat)} {val : Nat → AV} {marks : List Nat} {D : Nat → Bool} {a : Act}

/-- what carrying out operation i has done -/
structure Did (P : Program) (w0 : World) (base : Nat) (m : Nat) (h : Nat → Heap) (bef : Array Nat) (kp : Nat → List (Nat × Nat × Nat)) (val : Nat → AV) (i : Nat) (ι : Inj) (w : World) (ι1 : Inj) (w1 : World) : Prop where
  vok : (val i).OK w0 base (h (i + 1)).next
  vis : (val i).all (visA (bef.getD i 0) (kp i)) = true
  ext : ∀ b, b < (h i).next → ι1 b = ι b
  below : Below base w0 w1
  size : w.heap.size ≤ w1.heap.size
  frame : ∀ r, r < w.heap.size → w1.heap[r]? = w.heap[r]?
  new : ∀ b x, (h i).next ≤ b → b < (h (i + 1)).next → (h m).get b = some x →
    w.heap.size ≤ (ι1 b).1 ∧ base ≤ (ι1 b).1 ∧ BlkOK w0 base (h (i + 1)).next x ∧ x.all (visA (bef.getD i 0) (kp i)) = true ∧ BlkRel P ι1 (ι1 b).2 w1.heap[(ι1 b).1]? x
  inj : ∀ b b' x x', (h i).next ≤ b → b < (h (i + 1)).next → (h m).get b = some x → (h i).next ≤ b' → b' < (h (i + 1)).next → (h m).get b' = some x' → (ι1 b).1 = (ι1 b').1 → b = b'

theorem Inv.next [E : Env] (T : Trace P ex ops bef m e h kp val) (hr : raceFree ops bef = true) (hbits : ∀ i j, (bef.getD i 0).testBit j = true → j < i) (hOKe : ∀ v ∈ e 0, v.OK w0 base (h 0).next) (hOK0 : ∀ b x, (h 0).get b = some x → BlkOK w0 base (h 0).next x)
    (I : Inv P w0 base ι0 w00 marks ops bef m e h val kp D ι w a) (hmk : ∀ b ∈ marks, b < (h 0).next) {i : Nat} (hi : i < m) (hDi : D i = false) (hpre : ∀ j, (bef.getD i 0).testBit j = true → D j = true) (d : Did P w0 base m h bef kp val i ι w ι1 w1) :
    ∃ ι', Inv P w0 base ι0 w00 marks ops bef m e h val kp (fun j => if j = i then true else D j) ι' w1 (a.put (dstOf ops i) ((val i).conc ι1)) := by
  have hn0 : (h 0).next ≤ (h i).next := (T.mono 0 i (by omega) (by omega)).1
  have hni := (T.one hi).1
  -- the numbering behind
  have f1 : ∀ b, b < (h (i + 1)).next → (fun b => if (h i).next ≤ b ∧ b < (h (i + 1)).next then ι1 b else ι b : Inj) b = ι1 b := fun b hb => by
    dsimp only
    by_cases hc : (h i).next ≤ b
    · rw [if_pos ⟨hc, hb⟩]
    · rw [if_neg (by omega), d.ext b (by omega)]
  have f2 : ∀ b, ¬ ((h i).next ≤ b ∧ b < (h (i + 1)).next) → (fun b => if (h i).next ≤ b ∧ b < (h (i + 1)).next then ι1 b else ι b : Inj) b = ι b := fun b hb => by
    dsimp only; rw [if_neg hb]
  generalize hι' : (fun b => if (h i).next ≤ b ∧ b < (h (i + 1)).next then ι1 b else ι b : Inj) = ι' at f1 f2
  have g0 : ∀ b, b < (h 0).next → ι' b = ι b := fun b hb => f2 b (by omega)
  have cv : (val i).conc ι' = (val i).conc ι1 := conc_ext f1 _ d.vok
  have cj : ∀ j, D j = true → (val j).conc ι' = (val j).conc ι := fun j hj =>
    conc_all (p := fun b => decide (b < (h (j + 1)).next) && visA (bef.getD j 0) (kp j) b) (fun b hb => by
      simp only [Bool.and_eq_true, decide_eq_true_eq] at hb
      exact f2 b (ids_apart T hi (I.dm j hj) hDi hj (I.dc j hj) hb.1 hb.2)) _ (all_and _ (all_lt _ (I.vok j hj)) (I.vis j hj))
  have cB : ∀ j b x, D j = true → (h j).next ≤ b → b < (h (j + 1)).next → (h m).get b = some x → ∀ cap o, BlkRel P ι cap o x → BlkRel P ι' cap o x := fun j b x hj h1 h2 h3 cap o hrel => by
    obtain ⟨k1, k2⟩ := I.bok j b x hj h1 h2 h3
    exact BlkRel.all (p := fun b => decide (b < (h (j + 1)).next) && visA (bef.getD j 0) (kp j) b) (fun b hb => by
      simp only [Bool.and_eq_true, decide_eq_true_eq] at hb
      exact f2 b (ids_apart T hi (I.dm j hj) hDi hj (I.dc j hj) hb.1 hb.2)) (Blk.all_and k1.all_lt k2) hrel
  have live : ∀ b x, Live h m (fun j => if j = i then true else D j) b x → (Live h m D b x ∧ ι' b = ι b ∧ ¬ ((h i).next ≤ b ∧ b < (h (i + 1)).next)) ∨ ((h i).next ≤ b ∧ b < (h (i + 1)).next ∧ (h m).get b = some x ∧ ι' b = ι1 b) := by
    intro b x hL
    rcases hL with ⟨h1, h2⟩ | ⟨j, h1, h2, h3, h4, h5⟩
    · exact .inl ⟨.inl ⟨h1, h2⟩, f2 b (by omega), by omega⟩
    · by_cases hji : j = i
      · subst hji; exact .inr ⟨h3, h4, h5, f1 b h4⟩
      · simp only [hji, if_false] at h2
        have hap : ¬ ((h i).next ≤ b ∧ b < (h (i + 1)).next) := by
          rcases Nat.lt_or_ge j i with hlt | hge
          · have := (T.mono (j + 1) i (by omega) (by omega)).1; omega
          · have := (T.mono (i + 1) j (by omega) (by omega)).1; omega
        exact .inl ⟨.inr ⟨j, h1, h2, h3, h4, h5⟩, f2 b hap, hap⟩
  have liverel : ∀ b x, Live h m D b x → BlkRel P ι' (ι b).2 w.heap[(ι b).1]? x := by
    intro b x hL
    have hrel := I.rel b x hL
    rcases hL with ⟨h1, h2⟩ | ⟨j, h1, h2, h3, h4, h5⟩
    · exact BlkRel.ext g0 (hOK0 b x h2) hrel
    · exact cB j b x h2 h3 h4 h5 _ _ hrel
  refine ⟨ι', ⟨?_, ?_, ?_, ?_, ?_, ?_, ?_, ?_, ?_, ?_, ?_, ?_, ?_, ?_, ?_, ?_⟩⟩
  · intro j hj; by_cases hji : j = i
    · omega
    · simp only [hji, if_false] at hj; exact I.dm j hj
  · intro j hj q hq
    by_cases hqi : q = i
    · simp [hqi]
    · simp only [hqi, if_false]
      by_cases hji : j = i
      · subst hji; exact hpre q hq
      · simp only [hji, if_false] at hj; exact I.dc j hj q hq
  · cases hd : dstOf ops i <;> simp [Act.put, I.tsz]
  · intro t
    have hbase : (valT ops (e 0) val D m t).map (AV.conc ι') = (valT ops (e 0) val D m t).map (AV.conc ι) := by
      cases hv : valT ops (e 0) val D m t with
      | none => rfl
      | some v =>
        simp only [Option.map_some]
        congr 1
        rcases valT_cases (e 0) D t m v hv with hm | ⟨j, _, hj, rfl⟩
        · exact conc_ext g0 v (hOKe v hm)
        · exact cj j hj
    by_cases hd : dstOf ops i = some t
    · rw [hd]
      by_cases ht : t < (e 0).length
      · have hval : valT ops (e 0) val (fun j => if j = i then true else D j) m t = some (val i) := by
          rw [valT_le (ops := ops) (val := val) _ (e 0) t (i + 1) m (by omega) (fun j h1 h2 hj hdj => by
            have hji : j ≠ i := by omega
            simp only [hji, if_false] at hj
            obtain ⟨o, ho, _⟩ := T.step i hi
            obtain ⟨oj, hoj, _⟩ := T.step j h2
            have hdo : o.dst = some t := by simpa [dstOf, ho] using hd
            have hdoj : oj.dst = some t := by simpa [dstOf, hoj] using hdj
            cases hb1 : (bef.getD i 0).testBit j with
            | true => have := hbits i j hb1; omega
            | false =>
              cases hb2 : (bef.getD j 0).testBit i with
              | true => rw [I.dc j hj i hb2] at hDi; cases hDi
              | false => exact (raceFree_spec hr ho hoj (fun q => hji q.symm) hb1 hb2 t hdo).2 hdoj)]
          simp [valT, hd, ht]
        rw [hval]
        simp only [Act.put, Option.map_some]
        rw [Array.getElem?_setIfInBounds_self_of_lt (by rw [I.tsz]; exact ht), cv]
      · have hnone : ∀ D' k, valT ops (e 0) val D' k t = none := fun D' k => by
          induction k with
          | zero => exact List.getElem?_eq_none (Nat.le_of_not_lt ht)
          | succ k ih => rw [valT, if_neg (fun q => ht q.2.2)]; exact ih
        rw [hnone]
        simp only [Act.put, Option.map_none]
        exact Array.getElem?_eq_none (by simp [I.tsz]; omega)
    · have hsame : valT ops (e 0) val (fun j => if j = i then true else D j) m t = valT ops (e 0) val D m t := valT_same (e 0) t _ _ m (fun j _ hj => by
        have : j ≠ i := fun q => hd (by rw [← q]; exact hj)
        simp [this])
      rw [hsame, hbase, ← I.tm t]
      cases hd2 : dstOf ops i with
      | none => rfl
      | some d2 =>
        simp only [Act.put]
        rw [Array.getElem?_setIfInBounds_ne (fun q => hd (by rw [hd2, q]))]
  · intro j hj
    by_cases hji : j = i
    · subst hji; exact d.vok
    · simp only [hji, if_false] at hj; exact I.vok j hj
  · intro j hj
    by_cases hji : j = i
    · subst hji; exact d.vis
    · simp only [hji, if_false] at hj; exact I.vis j hj
  · have : (a.put (dstOf ops i) ((val i).conc ι1)).defers = a.defers := by cases dstOf ops i <;> rfl
    rw [this, I.dfs]
    exact List.map_congr_left fun b hb => by simp [markOf, g0 b (hmk b hb)]
  · intro b hb; rw [g0 b hb]; exact I.ext b hb
  · exact d.below
  · intro b b' x x' hL hL' heq
    rcases live b x hL with ⟨k1, k2, _⟩ | ⟨k1, k2, k3, k4⟩ <;> rcases live b' x' hL' with ⟨q1, q2, _⟩ | ⟨q1, q2, q3, q4⟩
    · rw [k2, q2] at heq; exact I.inj b b' x x' k1 q1 heq
    · rw [k2, q4] at heq
      have := rel_lt (I.rel b x k1); have := (d.new b' x' q1 q2 q3).1; omega
    · rw [k4, q2] at heq
      have := rel_lt (I.rel b' x' q1); have := (d.new b x k1 k2 k3).1; omega
    · rw [k4, q4] at heq; exact d.inj b b' x x' k1 k2 k3 q1 q2 q3 heq
  · intro b x hL
    rcases live b x hL with ⟨k1, k2, _⟩ | ⟨k1, k2, k3, k4⟩
    · rw [k2]; exact I.lo b x k1
    · rw [k4]; exact (d.new b x k1 k2 k3).2.1
  · intro b x hL
    rcases live b x hL with ⟨k1, k2, _⟩ | ⟨k1, k2, k3, k4⟩
    · rw [k2, d.frame _ (rel_lt (I.rel b x k1))]; exact liverel b x k1
    · rw [k4]
      obtain ⟨_, _, k5, _, k6⟩ := d.new b x k1 k2 k3
      exact BlkRel.ext f1 k5 k6
  · intro j b x hj h1 h2 h3
    by_cases hji : j = i
    · subst hji
      obtain ⟨_, _, k5, k6, _⟩ := d.new b x h1 h2 h3
      exact ⟨k5, k6⟩
    · simp only [hji, if_false] at hj; exact I.bok j b x hj h1 h2 h3
  · exact Nat.le_trans I.size d.size
  · intro r hr'; rw [d.frame r (Nat.lt_of_lt_of_le hr' I.size)]; exact I.frame r hr'
  · intro j b x hj h1 h2 h3
    by_cases hji : j = i
    · subst hji
      rw [f1 b h2]
      exact Nat.le_trans I.size (d.new b x h1 h2 h3).1
    · simp only [hji, if_false] at hj
      have hap : ¬ ((h i).next ≤ b ∧ b < (h (i + 1)).next) := by
        have := I.dm j hj
        rcases Nat.lt_or_ge j i with hlt | hge
        · have := (T.mono (j + 1) i (by omega) (by omega)).1; omega
        · have := (T.mono (i + 1) j (by omega) (by omega)).1; omega
      rw [f2 b hap]
      exact I.fresh j b x hj h1 h2 h3
end
end Go.Ab
/-! The abstract interpreter is sound, 17: regions whose order is open, whole. Conditions: none. -/
set_option linter.unusedSimpArgs false
set_option linter.unusedVariables false
namespace Go.Ab
open Go Go.RowKit
section
variable {P : Program} {w0 : World} {base lo : Nat} {ι ι0 ι1 ι2 : Inj} {H H1 H2 : Heap} {w w00 w1 w2 : World} {ex : ExF}
variable {ops : Array Oper} {bef : Array Nat} {m : Nat} {e : Nat → List AV} {h : Nat → Heap} {kp : Nat → List (Nat × Nat × Nat)} {val : Nat → AV} {marks : List Nat} {D : Nat → Bool} {a : Act}

theorem Trace.lt [E : Env] (T : Trace P ex ops bef m e h kp val) (h0 : ∀ b x, (h 0).get b = some x → b < (h 0).next) : ∀ j, j ≤ m → ∀ b x, (h j).get b = some x → b < (h j).next
  | 0, _ => h0
  | j + 1, hj => by
    intro b x hx
    have ih := Trace.lt T h0 j (by omega)
    obtain ⟨o, ho, hq, _⟩ := T.step j (by omega)
    rcases hq with ⟨_, _, h1, h2⟩ | ⟨_, hf, hop, _, _, h2⟩ | ⟨_, K, hop, _, ⟨h1, h2, _⟩ | ⟨_, h1, h2⟩⟩
    · rw [h1] at hx ⊢; exact ih b x hx
    · rcases heapFree_indep hf hop (h j) rfl with ⟨h1, _⟩ | ⟨y, h1, _⟩
      · rw [h1] at hx ⊢; exact ih b x hx
      · rw [h1] at hx ⊢
        rw [Heap.get_push] at hx
        split at hx
        · rename_i hb; simp; omega
        · have := ih b x hx; simp; omega
    · rw [h1] at hx ⊢; exact ih b x hx
    · rw [h1] at hx ⊢
      rw [growH_get] at hx
      split at hx
      · rename_i hb; simp only [growH]; omega
      · have := ih b x hx; simp only [growH]; omega

/-- what operation i reads is as the interpreter has it -/
theorem Inv.needs [E : Env] (T : Trace P ex ops bef m e h kp val) (hr : raceFree ops bef = true) (hbits : ∀ i j, (bef.getD i 0).testBit j = true → j < i) (hOKe : ∀ v ∈ e 0, v.OK w0 base (h 0).next)
    (I : Inv P w0 base ι0 w00 marks ops bef m e h val kp D ι w a) {i : Nat} (hi : i < m) (hDi : D i = false) (hpre : ∀ j, (bef.getD i 0).testBit j = true → D j = true) {o : Oper} (ho : ops[i]? = some o) :
    ∀ t ∈ needs ops o, a.tmps[t]? = ((e i)[t]?).map (AV.conc ι) ∧ ∀ v, (e i)[t]? = some v → v.OK w0 base (h i).next := by
  intro t ht
  have W : ∀ j, j < m → j ≠ i → dstOf ops j = some t → (bef.getD i 0).testBit j = true ∨ (bef.getD j 0).testBit i = true := by
    intro j hj hne hd
    obtain ⟨oj, hoj, _⟩ := T.step j hj
    have hdoj : oj.dst = some t := by simpa [dstOf, hoj] using hd
    cases hb1 : (bef.getD i 0).testBit j with
    | true => exact .inl rfl
    | false =>
      cases hb2 : (bef.getD j 0).testBit i with
      | true => exact .inr rfl
      | false => exact absurd ht (raceFree_spec hr hoj ho hne hb2 hb1 t hdoj).1
  have v1 : valT ops (e 0) val D m t = valT ops (e 0) val D i t := valT_le D (e 0) t i m (by omega) (fun j h1 h2 hj hd => by
    have hji : j ≠ i := fun q => by rw [q, hDi] at hj; cases hj
    rcases W j h2 hji hd with hb | hb
    · have := hbits i j hb; omega
    · rw [I.dc j hj i hb] at hDi; cases hDi)
  have v2 : valT ops (e 0) val D i t = valT ops (e 0) val (fun _ => true) i t := valT_same (e 0) t _ _ i (fun j hj hd => by
    rcases W j (by omega) (by omega) hd with hb | hb
    · exact hpre j hb
    · have := hbits j i hb; omega)
  have he := (T.env i (by omega)).2 t
  refine ⟨by rw [I.tm t, v1, v2, he], fun v hv => ?_⟩
  rw [he, ← v2] at hv
  rcases valT_cases (e 0) D t i v hv with hm | ⟨j, h1, h2, rfl⟩
  · exact OK.mono (T.mono 0 i (by omega) (by omega)).1 v (hOKe v hm)
  · exact OK.mono (T.mono (j + 1) i (by omega) (by omega)).1 _ (I.vok j h2)

theorem Inv.step [E : Env] (hN : Names P) (hS : Sound P w0 base ex) (hb : base ≤ w0.heap.size) (gl : GlobOK w0 base) (T : Trace P ex ops bef m e h kp val) (hr : raceFree ops bef = true) (hbits : ∀ i j, (bef.getD i 0).testBit j = true → j < i) (hOKe : ∀ v ∈ e 0, v.OK w0 base (h 0).next)
    (hOK0 : ∀ b x, (h 0).get b = some x → BlkOK w0 base (h 0).next x ∧ b < (h 0).next)
    (I : Inv P w0 base ι0 w00 marks ops bef m e h val kp D ι w a) (hmk : ∀ b ∈ marks, b < (h 0).next) {i : Nat} (hi : i < m) (hDi : D i = false) (hpre : ∀ j, (bef.getD i 0).testBit j = true → D j = true) (c : RC) (rest : List Nat) (k : List Item) (cs : List Frame) :
    ∃ ι' w' a', Inv P w0 base ι0 w00 marks ops bef m e h val kp (fun j => if j = i then true else D j) ι' w' a' ∧ Steps P (lone (F c a (.inRegion ops (i :: rest) :: k)) cs w) (lone (F c a' (.inRegion ops rest :: k)) cs w') := by
  obtain ⟨o, ho, hq, he⟩ := T.step i hi
  have hneeds := I.needs T hr hbits hOKe hi hDi hpre ho
  have hdst : dstOf ops i = o.dst := by simp [dstOf, ho]
  have hev : ∀ x ∈ o.op.operands, Ev w0 base (h i).next ι (e i) a.eval x := by
    intro x hx v hv
    cases x with
    | tmp t =>
      obtain ⟨h1, h2⟩ := hneeds t (List.mem_append.2 (.inl (List.mem_filterMap.2 ⟨.tmp t, by simpa using hx, rfl⟩)))
      simp only [evalO, Option.some.injEq] at hv
      subst hv
      simp only [Act.eval]
      cases ht : (e i)[t]? with
      | none => rw [ht] at h1; simp at h1; simp [List.getD, ht, h1, undef_conc, undefA, AV.OK, AV.OKL]; simp [AV.conc, AV.concL, undef]
      | some u => rw [ht] at h1; simp [List.getD, ht, h1]; exact h2 u ht
    | const v' => exact ⟨(ofVal_conc ι hv).symm, OK.mono (Nat.zero_le _) v (ofVal_OK hv)⟩
    | global g =>
      obtain ⟨h1, h2⟩ := gl g v hv
      exact ⟨(h2 ι).symm, OK.mono (Nat.zero_le _) v h1⟩
    | func f => simp only [evalO, Option.some.injEq] at hv; subst hv; simp [Act.eval, AV.conc, AV.concL, AV.OK, AV.OKL]
  have hwant : Region.wanted o (yielded ops a.tmps) = Region.wanted o (yieldedA ops (e i)) := by
    unfold Region.wanted
    cases hg : o.guard with
    | none => rfl
    | some g =>
      obtain ⟨j0, want⟩ := g
      simp only
      have : yielded ops a.tmps j0 = yieldedA ops (e i) j0 := by
        unfold yielded yieldedA
        cases hd : (ops[j0]?).bind (·.dst) with
        | none => rfl
        | some t =>
          obtain ⟨h1, _⟩ := hneeds t (List.mem_append.2 (.inr (by rw [hg]; simp [hd])))
          simp only [Option.bind_some, h1]
          cases ht : (e i)[t]? with
          | none => rfl
          | some v =>
            simp only [Option.map_some]
            cases v <;> try rfl
            rename_i b; cases b <;> rfl
      rw [this]
  have hm1 : ∀ b, b < (h (i + 1)).next → (h m).get b = (h (i + 1)).get b := (T.mono (i + 1) m (by omega) (Nat.le_refl _)).2
  have fin : ∀ (ι1 : Inj) (w1 : World), Did P w0 base m h bef kp val i ι w ι1 w1 → Steps P (lone (F c a (.inRegion ops (i :: rest) :: k)) cs w) (lone (F c (a.put o.dst ((val i).conc ι1)) (.inRegion ops rest :: k)) cs w1) →
      ∃ ι' w' a', Inv P w0 base ι0 w00 marks ops bef m e h val kp (fun j => if j = i then true else D j) ι' w' a' ∧ Steps P (lone (F c a (.inRegion ops (i :: rest) :: k)) cs w) (lone (F c a' (.inRegion ops rest :: k)) cs w') := by
    intro ι1 w1 d hst
    obtain ⟨ι', hI⟩ := I.next T hr hbits hOKe (fun b x hx => (hOK0 b x hx).1) hmk hi hDi hpre d
    rw [hdst] at hI
    exact ⟨ι', w1, _, hI, hst⟩
  -- an operation that is carried out on some heap of what is there
  have exec : ∀ (V V' : Heap), V.next = (h i).next → (∀ b x, V.get b = some x → Live h m D b x ∧ b < (h i).next ∧ BlkOK w0 base (h i).next x) → opA P ex (h i).next (e i) V o = some (val i, V') → Region.wanted o (yieldedA ops (e i)) = true →
      (val i).all (visA (bef.getD i 0) (kp i)) = true →
      ((h (i + 1)).next = V'.next ∨ (V.next ≤ V'.next → (h (i + 1)).next = V'.next) ∨ ((h (i + 1)).next = (h i).next ∧ ((val i).rf = true ∨ V' = V))) →
      (∀ b x, (h i).next ≤ b → b < (h (i + 1)).next → (h (i + 1)).get b = some x → V'.get b = some x ∧ x.all (visA (bef.getD i 0) (kp i)) = true) →
      ∃ ι' w' a', Inv P w0 base ι0 w00 marks ops bef m e h val kp (fun j => if j = i then true else D j) ι' w' a' ∧ Steps P (lone (F c a (.inRegion ops (i :: rest) :: k)) cs w) (lone (F c a' (.inRegion ops rest :: k)) cs w') := by
    intro V V' hVn hV hop hw hvis hnx hnew
    have sV : Sim P w0 base ι V w :=
      { below := I.below, hb := hb, gl := gl, inj := fun b b' x x' hx hx' => I.inj b b' x x' (hV b x hx).1 (hV b' x' hx').1, lt := fun b x hx => by rw [hVn]; exact (hV b x hx).2.1,
        lo := fun b x hx => I.lo b x (hV b x hx).1, ok := fun b x hx => by rw [hVn]; exact (hV b x hx).2.2, rel := fun b x hx => I.rel b x (hV b x hx).1 }
    obtain ⟨ι1, w1, hp, hv, hst⟩ := opA_sound hN hS sV hop (by omega) c a (fun x hx => by rw [hVn]; exact hev x hx) ho (by rw [hwant]; exact hw) rest k cs
    have hnx' : (h (i + 1)).next = V'.next ∨ ((h (i + 1)).next = (h i).next ∧ ((val i).rf = true ∨ V' = V)) := by
      rcases hnx with h1 | h1 | h1
      · exact .inl h1
      · exact .inl (h1 hp.next)
      · exact .inr h1
    have hvok : (val i).OK w0 base (h (i + 1)).next := by
      rcases hnx' with h1 | ⟨h1, h2 | h2⟩
      · rw [h1]; exact hv
      · exact OK.mono (Nat.zero_le _) _ (OK.rf _ h2 hv)
      · rw [h1, ← hVn, ← h2]; exact hv
    have hfrm : ∀ r, r < w.heap.size → w1.heap[r]? = w.heap[r]? := fun r hr' => hp.frame r hr' fun b x hx hl => by have := (hV b x hx).2.1; omega
    have hnewF : ∀ b x, (h i).next ≤ b → b < (h (i + 1)).next → (h m).get b = some x → V'.get b = some x ∧ x.all (visA (bef.getD i 0) (kp i)) = true ∧ w.heap.size ≤ (ι1 b).1 := by
      intro b x h1 h2 h3
      rw [hm1 b h2] at h3
      obtain ⟨h4, h5⟩ := hnew b x h1 h2 h3
      refine ⟨h4, h5, ?_⟩
      rcases hp.newr b x h4 (by omega) with h6 | ⟨b0, x0, h7, h8, _⟩
      · exact h6
      · have := (hV b0 x0 h7).2.1; omega
    refine fin ι1 w1 ⟨hvok, hvis, fun b hb' => hp.ext b (by omega), hp.sim.below, hp.size, hfrm, fun b x h1 h2 h3 => ?_, fun b b' x x' h1 h2 h3 h1' h2' h3' heq => ?_⟩ hst
    · obtain ⟨h4, h5, h6⟩ := hnewF b x h1 h2 h3
      refine ⟨h6, hp.sim.lo b x h4, ?_, h5, hp.sim.rel b x h4⟩
      rcases hnx' with h7 | ⟨h7, _⟩
      · rw [h7]; exact hp.sim.ok b x h4
      · omega
    · exact hp.sim.inj b b' x x' (hnewF b x h1 h2 h3).1 (hnewF b' x' h1' h2' h3').1 heq
  rcases hq with ⟨hw, hv, h1, h2⟩ | ⟨hw, hf, hop, hvis, hnk, h2⟩ | ⟨hw, K, hop, hvis, hcase⟩
  · -- not wanted
    have hsk := st_opSkip (P := P) (c := c) (a := a) (k := k) (cs := cs) (w := w) (ops := ops) (i := i) (rest := rest) (by rw [ho]; simp [hwant, hw])
    rw [ho] at hsk
    simp only [Option.bind_some] at hsk
    have hnx : (h (i + 1)).next = (h i).next := by rw [h1]
    refine fin ι w ⟨?_, ?_, fun _ _ => rfl, I.below, Nat.le_refl _, fun _ _ => rfl, fun b x q1 q2 _ => by omega, fun b b' x x' q1 q2 => by omega⟩ ?_
    · rw [hv]; simp [undefA, AV.OK, AV.OKL]
    · rw [hv]; simp [undefA, AV.all, AV.allL]
    · rw [hv, undef_conc]; exact .one hsk
  · -- free of the heap
    rcases heapFree_indep hf hop ⟨(h i).next, .leaf⟩ rfl with ⟨h3, h4⟩ | ⟨x, h3, h4⟩
    · refine exec ⟨(h i).next, .leaf⟩ _ rfl (fun b x hx => by have hn : (⟨(h i).next, .leaf⟩ : Heap).get b = none := rfl; rw [hn] at hx; cases hx) h4 hw hvis (.inl (by rw [h3])) (fun b x q1 q2 _ => by rw [h3] at q2; omega)
    · refine exec ⟨(h i).next, .leaf⟩ _ rfl (fun b x hx => by have hn : (⟨(h i).next, .leaf⟩ : Heap).get b = none := rfl; rw [hn] at hx; cases hx) h4 hw hvis (.inl (by rw [h3]; rfl)) (fun b y q1 q2 q3 => ?_)
      rw [h3] at q2 q3
      simp only [Heap.next_push] at q2
      have hbe : b = (h i).next := by omega
      rw [Heap.get_push, if_pos hbe] at q3
      refine ⟨by rw [Heap.get_push, if_pos hbe]; exact q3, ?_⟩
      have := List.all_eq_true.1 hnk 0 (List.mem_range.2 (by rw [h3]; simp))
      rw [h3, Nat.add_zero, Heap.get_push, if_pos rfl] at this
      cases q3
      exact this
  · -- on the view
    have hVn := viewA_next (bef.getD i 0) (kp i) (h i)
    obtain ⟨hk1, hk2⟩ := T.kept i (by omega)
    have hV : ∀ b x, (viewA (h i) (bef.getD i 0) (kp i)).get b = some x → Live h m D b x ∧ b < (h i).next ∧ BlkOK w0 base (h i).next x := by
      intro b x hx
      obtain ⟨h3, h4⟩ := viewA_get _ _ _ b x hx
      by_cases hb0 : b < (h 0).next
      · have h5 : (h 0).get b = some x := by rw [← (T.mono 0 i (by omega) (by omega)).2 b hb0]; exact h3
        have := (T.mono 0 i (by omega) (by omega)).1
        exact ⟨.inl ⟨hb0, h5⟩, by omega, (hOK0 b x h5).1.mono this⟩
      · -- whose is it?
        have hown : ∀ q, q ≤ i → (h 0).next ≤ b → (h q).get b = some x → ∃ j, j < q ∧ (h j).next ≤ b ∧ b < (h (j + 1)).next := by
          intro q
          induction q with
          | zero => intro _ h6 h7; have := (hOK0 b x h7).2; omega
          | succ q ih =>
            intro hq h6 h7
            by_cases h8 : b < (h q).next
            · rw [(T.one (j := q) (by omega)).2.1 b h8] at h7
              obtain ⟨j, h9, h10⟩ := ih (by omega) h6 h7
              exact ⟨j, by omega, h10⟩
            · refine ⟨q, by omega, by omega, ?_⟩
              exact T.lt (fun b x hx => (hOK0 b x hx).2) (q + 1) (by omega) b x h7
        obtain ⟨j, h6, h7, h8⟩ := hown i (Nat.le_refl _) (by omega) h3
        obtain ⟨q, hq, hqj⟩ := hk2 j h6 (by omega)
        obtain ⟨_, h9, h10⟩ := hk1 q hq
        rw [hqj] at h9 h10
        have hDj : D j = true := by
          cases hbit : (bef.getD i 0).testBit j with
          | true => exact hpre j hbit
          | false => exact absurd ⟨by omega, by omega⟩ (h4 q hq (by rw [hqj]; exact hbit))
        have hmi := (T.mono i m (by omega) (Nat.le_refl _)).2 b (by have := (T.mono (j + 1) i (by omega) (by omega)).1; omega)
        have hbl : b < (h i).next := by have := (T.mono (j + 1) i (by omega) (by omega)).1; omega
        refine ⟨.inr ⟨j, by omega, hDj, h7, h8, by rw [hmi]; exact h3⟩, hbl, ?_⟩
        exact (I.bok j b x hDj h7 h8 (by rw [hmi]; exact h3)).1.mono (T.mono (j + 1) i (by omega) (by omega)).1
    rcases hcase with ⟨h1, h2, h3⟩ | ⟨hnk, h1, h2⟩
    · refine exec _ K hVn hV hop hw hvis (.inr (.inr ⟨by rw [h1], ?_⟩)) (fun b x q1 q2 _ => by rw [h1] at q2; omega)
      rcases h3 with h3 | h3
      · exact .inr (onlyReads_heap h3 hop)
      · exact .inl h3
    · refine exec _ K hVn hV hop hw hvis (.inr (.inl (fun hle => by rw [h1]; simp only [growH]; omega))) (fun b x q1 q2 q3 => ?_)
      rw [h1] at q2 q3
      simp only [growH] at q2
      rw [growH_get, if_pos ⟨q1, q2⟩] at q3
      refine ⟨q3, ?_⟩
      have := List.all_eq_true.1 hnk (b - (h i).next) (List.mem_range.2 (by omega))
      rw [show (h i).next + (b - (h i).next) = b by omega, q3] at this
      exact this
end
end Go.Ab
/-! The abstract interpreter is sound, 18: all code; the calls. Conditions: none. -/
set_option linter.unusedSimpArgs false
set_option linter.unusedVariables false
namespace Go.Ab
open Go Go.RowKit

def cnt (D : Nat → Bool) : Nat → Nat
  | 0 => 0
  | n + 1 => cnt D n + (if D n then 0 else 1)
theorem cnt_same {D D' : Nat → Bool} : ∀ n, (∀ i, i < n → D i = D' i) → cnt D n = cnt D' n
  | 0, _ => rfl
  | n + 1, h => by simp only [cnt]; rw [cnt_same n (fun i hi => h i (by omega)), h n (by omega)]
theorem cnt_step [E : Env] {D : Nat → Bool} {i : Nat} (hi : D i = false) : ∀ n, i < n → cnt D n = cnt (fun j => if j = i then true else D j) n + 1
  | 0, h => by omega
  | n + 1, h => by
    simp only [cnt]
    by_cases e : n = i
    · subst e
      rw [cnt_same (D := D) (D' := fun j => if j = n then true else D j) n (fun j hj => by simp [show j ≠ n by omega])]
      simp [hi]
    · rw [cnt_step hi n (by omega)]
      simp [e]; omega
theorem cnt_lt (m : Nat) : ∀ n, m ≤ n → cnt (fun i => decide (i < m)) n = n - m
  | 0, h => by simp [cnt]
  | n + 1, h => by
    simp only [cnt]
    by_cases e : m ≤ n
    · rw [cnt_lt m n e]; simp [show ¬ n < m by omega]; omega
    · have : m = n + 1 := by omega
      subst this
      have : ∀ k, k ≤ n + 1 → cnt (fun i => decide (i < n + 1)) k = 0 := fun k => by
        induction k with
        | zero => intro _; rfl
        | succ k ih => intro hk; simp only [cnt]; rw [ih (by omega)]; simp [show k < n + 1 by omega]
      rw [this n (by omega)]; simp
theorem cnt_pos [E : Env] {D : Nat → Bool} {i : Nat} (hi : D i = false) : ∀ n, i < n → 0 < cnt D n := fun n h => by rw [cnt_step hi n h]; omega

section
variable {P : Program} {w0 : World} {base lo : Nat} {ι ι0 ι1 ι2 : Inj} {H H1 H2 : Heap} {w w00 w1 w2 : World} {ex : ExF}
variable {ops : Array Oper} {bef : Array Nat}

theorem go_nil (fuel t : Nat) (listed : Array Bool) (h : Region.ready .any ops listed = []) : Region.linearise.go .any ops fuel t listed [] = [] := by
  cases fuel with
  | zero => rfl
  | succ fuel =>
    simp only [Region.linearise.go]
    change (match (Region.ready .any ops listed)[t % (Region.ready .any ops listed).length]? with
      | some i => Region.linearise.go .any ops fuel (t / (Region.ready .any ops listed).length) (listed.setIfInBounds i true) [i]
      | none => [].reverse) = _
    rw [h]; rfl

theorem seqOrder' [E : Env] (r : Order ops bef) (hbits : ∀ i j, (bef.getD i 0).testBit j = true → j < i) : ∀ (k j fuel t : Nat) (listed : Array Bool), listed.size = ops.size → j + k = ops.size → k ≤ fuel → (∀ i, i < ops.size → listed.getD i false = decide (i < j)) →
    (∀ i, j ≤ i → i < ops.size → afterAll (bef.getD i 0) i = true) → Region.linearise.go .any ops fuel t listed [] = List.range' j k
  | 0, j, fuel, t, listed, hs, hk, hf, hl, _ => by
    refine go_nil fuel t listed (List.eq_nil_iff_forall_not_mem.2 fun i hi => ?_)
    obtain ⟨o, ho, h1, _⟩ := (ready_iff hs).1 hi
    have hio : i < ops.size := (Array.getElem?_eq_some_iff.1 ho).1
    rw [hl i hio] at h1
    simp at h1; omega
  | k + 1, j, 0, t, listed, hs, hk, hf, hl, ha => by omega
  | k + 1, j, fuel + 1, t, listed, hs, hk, hf, hl, ha => by
    have hj : j < ops.size := by omega
    obtain ⟨i, t', hi, hgo⟩ := go_step ops fuel t listed (ready_ne r hs hj (by rw [hl j hj]; simp))
    obtain ⟨o, ho, h1, h2⟩ := (ready_iff hs).1 hi
    have hio : i < ops.size := (Array.getElem?_eq_some_iff.1 ho).1
    rw [hl i hio] at h1
    have hge : j ≤ i := by simpa using h1
    have hij : i = j := by
      apply Classical.byContradiction
      intro hne
      have hbit := (afterAll_iff _ i).1 (ha i hge hio) j (by omega)
      obtain ⟨e, he, hb, h⟩ := r.via i o j ho hbit
      have hlisted := h2 e he hb
      have hlt := r.back i o ho e he hb
      rw [hl e.on (by omega)] at hlisted
      have hej : e.on < j := by simpa using hlisted
      rcases h with h | h
      · omega
      · have := hbits _ _ h; omega
    subst hij
    rw [hgo, List.range'_succ]
    congr 1
    exact seqOrder' r hbits k (i + 1) fuel t' _ (by simpa using hs) (by omega) (by omega) (fun q hq => by
      rw [getD_set _ _ _ (by omega)]
      by_cases e : q = i
      · subst e; simp
      · rw [if_neg e, hl q hq]
        have : (q < i) ↔ (q < i + 1) := by omega
        simp [this]) (fun q h1 h2 => ha q (by omega) h2)

variable {e : Nat → List AV} {h : Nat → Heap} {kp : Nat → List (Nat × Nat × Nat)} {val : Nat → AV} {marks : List Nat}

theorem quiet_run [E : Env] (hN : Names P) (hS : Sound P w0 base ex) (hb : base ≤ w0.heap.size) (gl : GlobOK w0 base) {m : Nat} (hm : m = quietLen bef ops.size) (T : Trace P ex ops bef m e h kp val) (hr : raceFree ops bef = true) (r : Order ops bef) (hbits : ∀ i j, (bef.getD i 0).testBit j = true → j < i)
    (hOKe : ∀ v ∈ e 0, v.OK w0 base (h 0).next) (hOK0 : ∀ b x, (h 0).get b = some x → BlkOK w0 base (h 0).next x ∧ b < (h 0).next) (hmk : ∀ b ∈ marks, b < (h 0).next) (c : RC) (k : List Item) (cs : List Frame) :
    ∀ (fuel t : Nat) (listed : Array Bool) (D : Nat → Bool) (ι : Inj) (w : World) (a : Act), listed.size = ops.size → cnt D ops.size ≤ fuel → (∀ i, i < ops.size → listed.getD i false = D i) → Inv P w0 base ι0 w00 marks ops bef m e h val kp D ι w a →
    ∃ ι' w' a', Inv P w0 base ι0 w00 marks ops bef m e h val kp (fun i => decide (i < m)) ι' w' a' ∧
      Steps P (lone (F c a (.inRegion ops (Region.linearise.go .any ops fuel t listed []) :: k)) cs w) (lone (F c a' (.inRegion ops (List.range' m (ops.size - m)) :: k)) cs w') := by
  have hmn : m ≤ ops.size := by rw [hm]; exact quietLen_le bef _
  have hafter : ∀ i, m ≤ i → i < ops.size → afterAll (bef.getD i 0) i = true := fun i h1 h2 => quietLen_after bef ops.size i (by omega) h2
  intro fuel
  induction fuel with
  | zero =>
    intro t listed D ι w a hs hc hl I
    have hD : D = fun i => decide (i < m) := by
      funext i
      cases hDi : D i with
      | true => simp [I.dm i hDi]
      | false =>
        by_cases him : i < m
        · have := cnt_pos hDi ops.size (by omega); omega
        · simp [him]
    subst hD
    have := seqOrder' r hbits (ops.size - m) m 0 t listed hs (by omega) (by rw [cnt_lt m _ hmn] at hc; omega) hl hafter
    rw [this]
    exact ⟨ι, w, a, I, Steps.refl P _⟩
  | succ fuel ih =>
    intro t listed D ι w a hs hc hl I
    by_cases hall : ∀ i, i < m → D i = true
    · have hD : D = fun i => decide (i < m) := by
        funext i
        cases hDi : D i with
        | true => simp [I.dm i hDi]
        | false =>
          by_cases him : i < m
          · rw [hall i him] at hDi; cases hDi
          · simp [him]
      subst hD
      have := seqOrder' r hbits (ops.size - m) m (fuel + 1) t listed hs (by omega) (by rw [cnt_lt m _ hmn] at hc; omega) hl hafter
      rw [this]
      exact ⟨ι, w, a, I, Steps.refl P _⟩
    · have hex : ∃ i, i < m ∧ D i = false := by
        apply Classical.byContradiction
        intro hn
        apply hall
        intro i hi
        cases hDi : D i with
        | true => rfl
        | false => exact absurd ⟨i, hi, hDi⟩ hn
      obtain ⟨i0, hi0, hDi0⟩ := hex
      obtain ⟨i, t', hi, hgo⟩ := go_step ops fuel t listed (ready_ne r hs (i := i0) (by omega) (by rw [hl i0 (by omega)]; exact hDi0))
      obtain ⟨o, ho, h1, h2⟩ := (ready_iff hs).1 hi
      have hio : i < ops.size := (Array.getElem?_eq_some_iff.1 ho).1
      have hDi : D i = false := by rw [← hl i hio]; exact h1
      have hpre : ∀ j, (bef.getD i 0).testBit j = true → D j = true := by
        intro j hj
        obtain ⟨e', he', hb', h3⟩ := r.via i o j ho hj
        have hlt := r.back i o ho e' he' hb'
        have hDe : D e'.on = true := by rw [← hl e'.on (by omega)]; exact h2 e' he' hb'
        rcases h3 with rfl | h3
        · exact hDe
        · exact I.dc e'.on hDe j h3
      have him : i < m := by
        apply Classical.byContradiction
        intro hge
        have := (afterAll_iff _ i).1 (hafter i (by omega) hio) i0 (by omega)
        rw [hpre i0 this] at hDi0; cases hDi0
      rw [hgo]
      obtain ⟨ι1, w1, a1, hI, hst⟩ := I.step hN hS hb gl T hr hbits hOKe hOK0 hmk him hDi hpre c (Region.linearise.go .any ops fuel t' (listed.setIfInBounds i true) []) k cs
      obtain ⟨ι2, w2, a2, hI2, hst2⟩ := ih t' (listed.setIfInBounds i true) (fun j => if j = i then true else D j) ι1 w1 a1 (by simpa using hs) (by rw [cnt_step hDi ops.size hio] at hc; omega) (fun q hq => by
        rw [getD_set _ _ _ (by omega)]
        by_cases e1 : q = i
        · simp [e1]
        · simp only [e1, if_false]; exact hl q hq) hI
      exact ⟨ι2, w2, a2, hI2, hst.trans hst2⟩

theorem list_ext_get {l l' : List AV} (h : ∀ t : Nat, l[t]? = l'[t]?) : l = l' := List.ext_getElem? h

/-- a region whose order is open -/
theorem runDraw_sound [E : Env] (hN : Names P) (hm : P.follows .mixedOrders = true) (hS : Sound P w0 base ex) (s : Sim P w0 base ι H w) {ops : Array Oper} {env env' : List AV} {H' : Heap} (hd : runDraw P ex lo ops env H = some (env', H')) {a : Act} (hA : ARel w0 base lo ι H.next env marks a) (hlo : lo ≤ H.next)
    (c : RC) (id : Nat) (k : List Item) (cs : List Frame) :
    ∃ ι' w' a', Post P w0 base lo ι H w ι' H' w' ∧ ARel w0 base lo ι' H'.next env' marks a' ∧ Steps P (lone (F c a (.code (.region id ops true) :: k)) cs w) (lone (F c a' k) cs w') := by
  unfold runDraw at hd
  simp only at hd
  split at hd
  · rename_i hc
    simp only [Bool.and_eq_true] at hc
    obtain ⟨⟨hr, hedge⟩, hbef⟩ := hc
    have r := order_of hedge hbef
    have hbsz : (Region.before ops).size = ops.size := by
      simp only [befOk, Bool.and_eq_true, decide_eq_true_eq] at hbef; exact hbef.1
    have hbits := r.bits (fun i hi => by simp [Array.getD_eq_getD_getElem?, Array.getElem?_eq_none (show (Region.before ops).size ≤ i by omega)])
    split at hd
    · rename_i env1 H1 hq
      have hmn := quietLen_le (Region.before ops) ops.size
      generalize hmdef : quietLen (Region.before ops) ops.size = m at hd hq hmn
      obtain ⟨e, h, kp, val, e1, e2, e3, e4, e5, e6⟩ := runQuiet_trace ops (Region.before ops) (ops.toList.take m) 0 env H [] env1 H1 (fun j o hj => by
        rw [List.getElem?_take] at hj
        split at hj
        · simpa using hj
        · cases hj) hq
      have hlen : (ops.toList.take m).length = m := by simp; omega
      rw [hlen, Nat.zero_add] at e4 e5
      have T : Trace P ex ops (Region.before ops) m e h kp val := ⟨e3, fun j hj => e6 j (by omega) (by omega)⟩
      have hOKe : ∀ v ∈ e 0, v.OK w0 base (h 0).next := by rw [e1, e2]; exact hA.ok
      have hOK0 : ∀ b x, (h 0).get b = some x → BlkOK w0 base (h 0).next x ∧ b < (h 0).next := by rw [e2]; exact fun b x hx => ⟨s.ok b x hx, s.lt b x hx⟩
      have hmk : ∀ b ∈ marks, b < (h 0).next := by rw [e2]; exact fun b hb => (hA.marks b hb).2
      have hlive0 : ∀ b x, Live h m (fun _ => false) b x → H.get b = some x := by
        intro b x hL
        rcases hL with ⟨_, h2⟩ | ⟨_, _, h2, _⟩
        · rw [e2] at h2; exact h2
        · cases h2
      have hvalF : ∀ j t, valT ops (e 0) val (fun _ => false) j t = (e 0)[t]? := fun j t => by
        induction j with
        | zero => rfl
        | succ j ih => rw [valT, if_neg (by simp)]; exact ih
      have s' := s.drawn (w.drawn + 1)
      have I0 : Inv P w0 base ι { w with drawn := w.drawn + 1 } marks ops (Region.before ops) m e h val kp (fun _ => false) ι { w with drawn := w.drawn + 1 } a :=
        { dm := fun i hi => by cases hi
          dc := fun i hi => by cases hi
          tsz := by rw [hA.tmps, e1]; simp
          tm := fun t => by rw [hvalF, e1, hA.tmps]; simp
          vok := fun i hi => by cases hi
          vis := fun i hi => by cases hi
          dfs := hA.defers
          ext := fun _ _ => rfl
          below := s'.below
          inj := fun b b' x x' hx hx' => s'.inj b b' x x' (hlive0 b x hx) (hlive0 b' x' hx')
          lo := fun b x hx => s'.lo b x (hlive0 b x hx)
          rel := fun b x hx => s'.rel b x (hlive0 b x hx)
          bok := fun i b x hi => by cases hi
          size := Nat.le_refl _
          frame := fun _ _ => rfl
          fresh := fun i b x hi => by cases hi }
      have hsched : Region.schedule (P.follows .mixedOrders) ops (w.tape w.drawn (.order c.fn id)) = Region.linearise.go .any ops ops.size (w.tape w.drawn (.order c.fn id)) (Array.replicate ops.size false) [] := by
        simp [Region.schedule, hm, Region.linearise]
      obtain ⟨ι1, w1, a1, I, hst⟩ := quiet_run (ι0 := ι) (w00 := { w with drawn := w.drawn + 1 }) (marks := marks) hN hS s.hb s.gl hmdef.symm T hr r hbits hOKe hOK0 hmk c k cs ops.size (w.tape w.drawn (.order c.fn id)) (Array.replicate ops.size false) (fun _ => false) ι _ a (by simp) (by
          have : ∀ n, cnt (fun _ => false) n = n := fun n => by induction n with
            | zero => rfl
            | succ n ih => simp [cnt, ih]
          rw [this]; exact Nat.le_refl _) (fun i hi => by simp [Array.getD_eq_getD_getElem?, hi]) I0
      -- the heap behind the quiet part
      have hlt := T.lt (fun b x hx => (hOK0 b x hx).2)
      have hliveM : ∀ b x, H1.get b = some x → Live h m (fun i => decide (i < m)) b x := by
        intro b x hx
        rw [← e5] at hx
        by_cases hb0 : b < (h 0).next
        · exact .inl ⟨hb0, by rw [← (T.mono 0 m (by omega) (Nat.le_refl _)).2 b hb0]; exact hx⟩
        · have hown : ∀ q, q ≤ m → b < (h q).next → ∃ j, j < q ∧ (h j).next ≤ b ∧ b < (h (j + 1)).next := by
            intro q
            induction q with
            | zero => intro _ h6; omega
            | succ q ih =>
              intro hq h6
              by_cases h8 : b < (h q).next
              · obtain ⟨j, h9, h10⟩ := ih (by omega) h8
                exact ⟨j, by omega, h10⟩
              · exact ⟨q, by omega, by omega, h6⟩
          obtain ⟨j, h6, h7, h8⟩ := hown m (Nat.le_refl _) (hlt m (Nat.le_refl _) b x hx)
          exact .inr ⟨j, h6, by simp [h6], h7, h8, hx⟩
      have hn0 : H.next ≤ H1.next := by rw [← e2, ← e5]; exact (T.mono 0 m (by omega) (Nat.le_refl _)).1
      have p1 : Post P w0 base lo ι H w ι1 H1 w1 :=
        { sim := { below := I.below, hb := s.hb, gl := s.gl, inj := fun b b' x x' hx hx' => I.inj b b' x x' (hliveM b x hx) (hliveM b' x' hx'), lt := fun b x hx => by rw [← e5] at hx ⊢; exact hlt m (Nat.le_refl _) b x hx,
                   lo := fun b x hx => I.lo b x (hliveM b x hx), rel := fun b x hx => I.rel b x (hliveM b x hx),
                   ok := fun b x hx => by
                     rcases hliveM b x hx with ⟨h6, h7⟩ | ⟨j, h6, h7, h8, h9, h10⟩
                     · exact (hOK0 b x h7).1.mono (by rw [e2]; exact hn0)
                     · exact (I.bok j b x h7 h8 h9 h10).1.mono (by rw [← e5]; exact (T.mono (j + 1) m (by omega) (Nat.le_refl _)).1) }
          ext := fun b hb => I.ext b (by rw [e2]; exact hb)
          next := hn0
          keep := fun b hb => by rw [← e2, ← e5]; exact (T.mono 0 m (by omega) (Nat.le_refl _)).2 b (by rw [e2]; omega)
          alive := fun b x hb hx => ⟨x, by rw [← e2, ← (T.mono 0 m (by omega) (Nat.le_refl _)).2 b (by rw [e2]; exact hb), e5]; exact hx⟩
          size := I.size
          frame := fun q hq _ => I.frame q hq
          newr := fun b x hx hb => by
            rcases hliveM b x hx with ⟨h6, h7⟩ | ⟨j, h6, h7, h8, h9, h10⟩
            · rw [e2] at h6; omega
            · exact .inl (I.fresh j b x h7 h8 h9 h10) }
      have hA1 : ARel w0 base lo ι1 H1.next env1 marks a1 := by
        have hv : ∀ t, env1[t]? = valT ops (e 0) val (fun i => decide (i < m)) m t := fun t => by
          rw [← e4, (T.env m (Nat.le_refl _)).2 t]
          exact valT_same (e 0) t _ _ m (fun j hj _ => by simp [hj])
        refine ⟨?_, fun v hv' => ?_, I.dfs, fun b hb => ⟨(hA.marks b hb).1, by have := (hA.marks b hb).2; omega⟩⟩
        · apply Array.ext_getElem?
          intro t
          rw [I.tm t, ← hv t]
          simp
        · obtain ⟨t, ht⟩ := List.getElem?_of_mem hv'
          rw [hv t] at ht
          rcases valT_cases (e 0) _ t m v ht with h6 | ⟨j, h6, h7, rfl⟩
          · exact OK.mono (by rw [e2]; exact hn0) v (hOKe v h6)
          · exact OK.mono (by rw [← e5]; exact (T.mono (j + 1) m (by omega) (Nat.le_refl _)).1) _ (I.vok j h7)
      obtain ⟨ι2, w2, a2, hp2, hA2, hst2⟩ := runOps_sound hN hS ops marks c k cs (ops.toList.drop m) m env1 H1 env' H' ι1 w1 a1 (fun j => by rw [List.getElem?_drop]; simp) hd p1.sim hA1 (by omega)
      refine ⟨ι2, w2, a2, p1.trans hp2, hA2, ?_⟩
      have h7 : (ops.toList.drop m).length = ops.size - m := by simp
      rw [h7] at hst2
      refine Steps.head st_draw ?_
      rw [hsched]
      exact hst.trans (hst2.trans (.one st_regionEnd))
    · cases hd
  · cases hd
end
end Go.Ab
/-! The abstract interpreter is sound, 19: code of every form; the interpreter at every depth; what it says of a call. Conditions: none. -/
set_option linter.unusedSimpArgs false
set_option linter.unusedVariables false
namespace Go.Ab
open Go Go.RowKit
section
variable {P : Program} {w0 : World} {base lo : Nat} {ι ι0 ι1 ι2 : Inj} {H H1 H2 : Heap} {w w00 w1 w2 : World} {ex : ExF}

theorem F_finishRange (c : RC) (a : Act) (l : Nat) (k : List Item) (v : Value) : (F c a (.inRangeFunc l :: k)).finish v = F c a (.endRangeFunc l :: k) := rfl
/-- a loop over a function -/
theorem rangeFunc_sound [E : Env] (hN : Names P) (hS : Sound P w0 base ex) {cx : Ctx} {st st' : St} {e : Ex} {f : Operand} {params : Array Tmp} {assign body : Code} (h : stepX P ex cx lo (.rangeFunc f params assign body) st = some (e, st'))
    (s : Sim P w0 base ι st.H w) {a : Act} (hA : ARel w0 base lo ι st.H.next st.env st.marks a) {c : RC} (hC : CRel ι st.H.next cx c) (hlo : lo ≤ st.H.next) (k : List Item) (cs : List Frame) :
    ∃ ι' w' a', Post P w0 base lo ι st.H w ι' st'.H w' ∧ ARel w0 base lo ι' st'.H.next st'.env st'.marks a' ∧ Reach P (lone (F c a (.code (.rangeFunc f params assign body) :: k)) cs w) c k cs e a' w' := by
  simp only [stepX] at h
  cases hfv : evalO st.env f with
  | none => simp [hfv] at h
  | some fv =>
  simp only [hfv] at h
  obtain ⟨ef, efOK⟩ := hA.ev s.gl f fv hfv
  -- where the calls that are deferred in its rounds lie
  have start : ∃ d marks H ι1 w1 mark, loopStart cx.rnd st.marks st.H = some (d, marks, H) ∧
      Post P w0 base lo ι st.H w ι1 H w1 ∧ d < H.next ∧ ARel w0 base lo ι1 H.next st.env marks ⟨a.tmps, mark ++ a.defers⟩ ∧
      (do let (defers, mark) ← (match c.rnd with
            | some l => do pure ((← Instr.getLoop l).defers, [])
            | none => do
              let r ← newObj (.deferred (some []))
              pure (r, [{ target := .collected r, args := #[] }]) : Sem (Nat × List Deferred))
          pure (defers, mark) : Sem (Nat × List Deferred)).run P w = .ok ((ι1 d).1, mark) w1 := by
    rcases hC.rnd with ⟨h1, h2⟩ | ⟨l, h1, h2, h3⟩
    · have hp := Post.alloc (lo := lo) s .dfr (.deferred (some [])) 0 trivial rfl hlo
      refine ⟨st.H.next, st.H.next :: st.marks, st.H.push .dfr, _, _, [markOf (ι.put st.H.next w.heap.size 0) st.H.next], by rw [h1]; rfl, hp, by simp, ?_, ?_⟩
      · have hA' := hA.ext hp.ext hp.next
        refine ⟨hA'.tmps, hA'.ok, ?_, fun b hb => ?_⟩
        · simp only [List.map_cons, List.singleton_append]
          congr 1
          exact hA'.defers
        · rcases List.mem_cons.1 hb with rfl | hb
          · exact ⟨hlo, by simp⟩
          · exact hA'.marks b hb
      · rw [h2]
        simp [newObj, Sem.run, markOf]
    · cases hq : loopStart cx.rnd st.marks st.H with
      | none => simp [hq] at h
      | some q =>
        rw [h1] at hq
        simp only [loopStart] at hq
        split at hq
        · rename_i st1 pend fn tmps params1 assign1 body1 d1 hl
          cases hq
          refine ⟨d1, st.marks, st.H, ι, w, [], by first | rfl | (rw [h1]; simp [loopStart, hl]), Post.refl s, (s.ok l _ hl).2, by simpa using hA, ?_⟩
          rw [h3]
          simp [(run_getLoop s hl).1]
        · cases hq
  obtain ⟨d, marks, H, ι1, w1, mark, hsel, hp1, hdlt, hA1, hrun1⟩ := start
  rw [hsel] at h
  simp only at h
  -- the loop's record
  have hp2 := Post.alloc (lo := lo) hp1.sim (.loop .ready none cx.fn st.env params.toList assign body d)
    (.loop { state := .ready, pending := none, fn := c.fn, tmps := a.tmps, params, assign, body, defers := (ι1 d).1 }) 0 ⟨hA1.ok, hdlt⟩
    (by have := hA1.tmps; simp only at this; simp [BlkRel, hC.fn, this]) (Nat.le_trans hlo hp1.next)
  have hl : ((ι1.put H.next w1.heap.size 0) H.next).1 = w1.heap.size := by rw [Inj.put_same]
  have henter : (Instr.enterLoop c.fn a.tmps params assign body c.rnd).run P w = .ok (w1.heap.size, mark) (w1.alloc (.loop { state := .ready, pending := none, fn := c.fn, tmps := a.tmps, params, assign, body, defers := (ι1 d).1 })) := by
    have hr := hrun1
    unfold Instr.enterLoop
    cases hcr : c.rnd with
    | none =>
      rw [hcr] at hr
      simp only [Sem.run_bind, Sem.run_pure] at hr ⊢
      cases hx : (newObj (.deferred (some []))).run P w with
      | ok r w' =>
        rw [hx] at hr
        simp only [Result.andThen_ok, Result.ok.injEq, Prod.mk.injEq] at hr
        obtain ⟨⟨h1, h2⟩, h3⟩ := hr
        subst h1; subst h3
        simp only [Result.andThen_ok]
        simp [newObj, Sem.run, h2]
      | halt q w' => rw [hx] at hr; simp at hr
    | some l =>
      rw [hcr] at hr
      simp only [Sem.run_bind, Sem.run_pure] at hr ⊢
      cases hx : (Instr.getLoop l).run P w with
      | ok r w' =>
        rw [hx] at hr
        simp only [Result.andThen_ok, Result.ok.injEq, Prod.mk.injEq] at hr
        obtain ⟨⟨h1, h2⟩, h3⟩ := hr
        subst h2; subst h3
        simp only [Result.andThen_ok]
        simp [newObj, Sem.run, h1]
      | halt q w' => rw [hx] at hr; simp at hr
  clear hrun1 hsel
  generalize hW2 : (w1.alloc (.loop { state := .ready, pending := none, fn := c.fn, tmps := a.tmps, params, assign, body, defers := (ι1 d).1 })) = W2 at hp2 henter
  generalize hι2 : ι1.put H.next w1.heap.size 0 = ι2 at hp2 hl
  clear hW2 hι2
  split at h
  · rename_i r H' hcall
    cases fv <;> simp only at hcall <;> try (cases hcall; done)
    rename_i g first cap
    have efOK1 := OK.mono (Nat.le_trans hp1.next (Nat.le_succ _)) _ efOK
    simp only [AV.OK] at efOK1
    obtain ⟨fn, fbody, hf, hb⟩ := callA_body hcall
    have hext2 : ∀ b, b < st.H.next → ι2 b = ι b := fun b hb => (hp1.trans hp2).ext b hb
    have ef2 : a.eval f = (AV.func g first cap).conc ι2 := by rw [ef]; exact (conc_ext hext2 _ efOK).symm
    have h2 : (do let d ← resolve a.eval { callee := .value f, args := #[.const (.func (.yield w1.heap.size) #[] #[])], argTypes := #[] } 0; invoke d.target d.args : Sem Next).run P
        W2 = .ok (.enter g ((first ++ [AV.yieldf H.next] ++ cap).map (AV.conc ι2)).toArray) W2 := by
      simp only [resolve, ef2, AV.conc, Deferred.ofValue, pure_bind, invoke, concL_eq]
      rw [run_callFunc hN hf hb]
      congr 2
      apply Array.ext'
      simp [Act.eval, AV.conc, hl]
    obtain ⟨ι3, w3, fr, hp3, hv3, hst3, hleave, _⟩ := callA_sound hN.summ hS hp2.sim hcall (fun x hx => by
      rcases List.mem_append.1 hx with hx | hx
      · rcases List.mem_append.1 hx with hx | hx
        · exact (OKL_iff ..).1 efOK1.1 x hx
        · rw [List.mem_singleton.1 hx]; simp [AV.OK]
      · exact (OKL_iff ..).1 efOK1.2 x hx) (Nat.le_trans hlo (Nat.le_trans hp1.next (Nat.le_succ _))) (F c ⟨a.tmps, mark ++ a.defers⟩ (.inRangeFunc w1.heap.size :: k) :: cs)
    have hl3 : (ι3 H.next).1 = w1.heap.size := by rw [hp3.ext H.next (by simp)]; exact hl
    split at h
    · rename_i st1 pend fn1 tmps1 params1 assign1 body1 d1 hloop
      split at h
      · cases h
      · rename_i hbusy
        obtain ⟨hg1, hg2⟩ := run_getLoop hp3.sim hloop
        have hp4 := Post.drop (lo := lo) hp3.sim hloop { w3 with heap := w3.heap.setIfInBounds (ι3 H.next).1 (.loop { state := .exhausted, pending := pend, fn := fn1, tmps := (tmps1.map (AV.conc ι3)).toArray, params := params1.toArray, assign := assign1, body := body1, defers := (ι3 d1).1 }) }
          (Nat.le_trans hlo hp1.next) ⟨rfl, rfl, rfl, by simp⟩ (fun r hr => Array.getElem?_setIfInBounds_ne (fun q => hr q.symm))
        have hend : (Instr.endLoop w1.heap.size).run P w3 = .ok pend { w3 with heap := w3.heap.setIfInBounds (ι3 H.next).1 (.loop { state := .exhausted, pending := pend, fn := fn1, tmps := (tmps1.map (AV.conc ι3)).toArray, params := params1.toArray, assign := assign1, body := body1, defers := (ι3 d1).1 }) } := by
          rw [← hl3]
          have hb' : (st1 == LoopState.busy) = false := by cases st1 <;> first | rfl | exact absurd rfl hbusy
          simp only [Instr.endLoop, Sem.run_bind, hg1, Result.andThen_ok, hb', Bool.false_eq_true, if_false, Sem.run_pure]
          rw [run_setObj _ _ _ hg2 (by simp)]
          rfl
        generalize hWf : ({ w3 with heap := w3.heap.setIfInBounds (ι3 H.next).1 (.loop { state := .exhausted, pending := pend, fn := fn1, tmps := (tmps1.map (AV.conc ι3)).toArray, params := params1.toArray, assign := assign1, body := body1, defers := (ι3 d1).1 }) } : World) = Wf at hp4 hend
        clear hWf
        have hsteps : Steps P (lone (F c a (.code (.rangeFunc f params assign body) :: k)) cs w) (lone (F c ⟨a.tmps, mark ++ a.defers⟩ ((pend.map Item.code).toList ++ k)) cs Wf) :=
          by
            have q1 := st_rangeCall (P := P) (k := k) (cs := cs) henter h2
            have q2 := st_leave (d := F c ⟨a.tmps, mark ++ a.defers⟩ (.inRangeFunc w1.heap.size :: k)) (ds := cs) hleave
            rw [F_finishRange] at q2
            have q3 := st_endLoop (P := P) (c := c) (a := ⟨a.tmps, mark ++ a.defers⟩) (k := k) (cs := cs) hend
            exact Steps.head q1 (hst3.trans (Steps.head q2 (.one q3)))
        have hp := ((hp1.trans hp2).trans hp3).trans hp4
        have hAf : ARel w0 base lo ι3 (H'.kill H.next).next st.env marks ⟨a.tmps, mark ++ a.defers⟩ := (hA1.ext hp2.ext hp2.next).ext hp3.ext hp3.next
        cases pend with
        | none =>
          simp only at h
          cases h
          exact ⟨ι3, _, _, hp, hAf, hsteps⟩
        | some j =>
          cases j <;> simp only at h <;> try (cases h; done)
          · cases h; exact ⟨ι3, _, _, hp, hAf, k, rfl, hsteps⟩
          · cases h; exact ⟨ι3, _, _, hp, hAf, k, hsteps⟩
    · cases h
  · cases h

theorem Reach.inLoop [E : Env] {x : Code} {c : RC} {a a' : Act} {k : List Item} {cs : List Frame} {e : Ex} {w' : World} (h : Reach P (lone (F c a (.code (.loop x) :: k)) cs w) c k cs e a' w') : Reach P (lone (F c a (.inLoop x :: k)) cs w) c k cs e a' w' := by
  have key : ∀ (a2 : Act) (k2 : List Item), k2 ≠ .code (.loop x) :: k → Steps P (lone (F c a (.code (.loop x) :: k)) cs w) (lone (F c a2 k2) cs w') → Steps P (lone (F c a (.inLoop x :: k)) cs w) (lone (F c a2 k2) cs w') := by
    intro a2 k2 hne hs
    obtain ⟨n, hn⟩ := hs
    cases n with
    | zero =>
      simp only [runN, Stepped.next.injEq] at hn
      have := congrArg (fun m : Machine => (m.gs[0]?).map (·.frame.todo)) hn
      simp [lone, F] at this
      exact absurd this.symm hne
    | succ n =>
      rw [runN, st_loop] at hn
      exact Steps.head st_inLoop ⟨n, hn⟩
  cases e with
  | normal => exact key a' k (fun q => by have := congrArg List.length q; simp at this) h
  | exit id => obtain ⟨k1, hk, hs⟩ := h; exact ⟨k1, hk, key a' _ (by simp) hs⟩
  | ret => obtain ⟨k1, hs⟩ := h; exact ⟨k1, key a' _ (by simp) hs⟩
  | panic v => exact h

theorem stepX_sound [E : Env] (hN : Names P) (hm : P.follows .mixedOrders = true) (hS : Sound P w0 base ex) : Sound P w0 base (stepX P ex) := by
  intro cx lo code st e st' h ι w a c s hA hC hlo k cs
  cases code with
  | skip => simp only [stepX] at h; cases h; exact ⟨ι, w, a, Post.refl s, hA, .one st_skip⟩
  | ret => simp only [stepX] at h; cases h; exact ⟨ι, w, a, Post.refl s, hA, k, Steps.refl P _⟩
  | exit id => simp only [stepX] at h; cases h; exact ⟨ι, w, a, Post.refl s, hA, k, rfl, Steps.refl P _⟩
  | region id ops draw =>
    simp only [stepX] at h
    cases draw with
    | true =>
      simp only [if_true] at h
      split at h
      · rename_i env H hd
        cases h
        obtain ⟨ι', w', a', h1, h2, h3⟩ := runDraw_sound hN hm hS s hd hA hlo c id k cs
        exact ⟨ι', w', a', h1, h2, h3⟩
      · cases h
    | false =>
      simp only [Bool.false_eq_true, if_false] at h
      split at h
      · rename_i env H hd
        cases h
        obtain ⟨ι', w', a', h1, h2, h3⟩ := runOps_sound hN hS ops st.marks c k cs ops.toList 0 st.env st.H env H ι w a (fun j => by simp) hd s hA hlo
        refine ⟨ι', w', a', h1, h2, ?_⟩
        refine Steps.head st_region ?_
        rw [List.range_eq_range', ← Array.length_toList]
        exact h3.trans (.one st_regionEnd)
      · cases h
  | seq x y =>
    simp only [stepX] at h
    split at h
    · rename_i st1 h1
      obtain ⟨ι1, w1, a1, p1, hA1, r1⟩ := hS _ _ _ _ _ _ h1 ι w a c s hA hC hlo (.code y :: k) cs
      obtain ⟨ι2, w2, a2, p2, hA2, r2⟩ := hS _ _ _ _ _ _ h ι1 w1 a1 c p1.sim hA1 (hC.ext p1.ext p1.next) (Nat.le_trans hlo p1.next) k cs
      exact ⟨ι2, w2, a2, p1.trans p2, hA2, r2.of_steps (Steps.head st_seq r1)⟩
    · rename_i hne
      obtain ⟨ι1, w1, a1, p1, hA1, r1⟩ := hS _ _ _ _ _ _ h ι w a c s hA hC hlo (.code y :: k) cs
      refine ⟨ι1, w1, a1, p1, hA1, ?_⟩
      cases e with
      | normal => exact absurd h (hne st')
      | exit id => obtain ⟨k1, hk, hs⟩ := r1; exact ⟨k1, hk, Steps.head st_seq hs⟩
      | ret => obtain ⟨k1, hs⟩ := r1; exact ⟨k1, Steps.head st_seq hs⟩
      | panic v => exact r1
  | cond o x y =>
    simp only [stepX] at h
    split at h
    · rename_i t ht
      obtain ⟨ι1, w1, a1, p1, hA1, r1⟩ := hS _ _ _ _ _ _ h ι w a c s hA hC hlo k cs
      have hev := (hA.ev s.gl o _ ht).1
      exact ⟨ι1, w1, a1, p1, hA1, r1.of_steps (.one (st_cond hev))⟩
    · cases h
  | block id x =>
    simp only [stepX] at h
    split at h
    · rename_i id' st1 h1
      cases h
      obtain ⟨ι1, w1, a1, p1, hA1, k1, hk, hs⟩ := hS _ _ _ _ _ _ h1 ι w a c s hA hC hlo (.inBlock id :: k) cs
      refine ⟨ι1, w1, a1, p1, hA1, ?_⟩
      by_cases e1 : id' = id
      · subst e1
        simp only [if_true]
        have : exitTo id' k1 = some k := by rw [hk]; simp [exitTo]
        exact Steps.head st_block (hs.trans (.one (st_exit this)))
      · simp only [e1, if_false]
        refine ⟨k1, ?_, Steps.head st_block hs⟩
        rw [hk]
        have : (id == id') = false := by simp; exact fun q => e1 q.symm
        simp [exitTo, this]
    · rename_i hne
      obtain ⟨ι1, w1, a1, p1, hA1, r1⟩ := hS _ _ _ _ _ _ h ι w a c s hA hC hlo (.inBlock id :: k) cs
      refine ⟨ι1, w1, a1, p1, hA1, ?_⟩
      cases e with
      | normal => exact Steps.head st_block (Steps.trans r1 (.one st_inBlock))
      | exit id' => exact absurd h (hne id' st')
      | ret => obtain ⟨k1, hs⟩ := r1; exact ⟨k1, Steps.head st_block hs⟩
      | panic v => exact r1
  | loop x =>
    simp only [stepX] at h
    split at h
    · rename_i st1 h1
      obtain ⟨ι1, w1, a1, p1, hA1, r1⟩ := hS _ _ _ _ _ _ h1 ι w a c s hA hC hlo (.inLoop x :: k) cs
      obtain ⟨ι2, w2, a2, p2, hA2, r2⟩ := hS _ _ _ _ _ _ h ι1 w1 a1 c p1.sim hA1 (hC.ext p1.ext p1.next) (Nat.le_trans hlo p1.next) k cs
      exact ⟨ι2, w2, a2, p1.trans p2, hA2, r2.inLoop.of_steps (Steps.head st_loop r1)⟩
    · rename_i hne
      obtain ⟨ι1, w1, a1, p1, hA1, r1⟩ := hS _ _ _ _ _ _ h ι w a c s hA hC hlo (.inLoop x :: k) cs
      refine ⟨ι1, w1, a1, p1, hA1, ?_⟩
      cases e with
      | normal => exact absurd h (hne st')
      | exit id => obtain ⟨k1, hk, hs⟩ := r1; exact ⟨k1, hk, Steps.head st_loop hs⟩
      | ret => obtain ⟨k1, hs⟩ := r1; exact ⟨k1, Steps.head st_loop hs⟩
      | panic v => exact r1
  | rangeFunc f params assign body => exact rangeFunc_sound hN hS h s hA hC hlo k cs
  | _ => simp [stepX] at h

theorem exec_sound [E : Env] (hN : Names P) (hm : P.follows .mixedOrders = true) : ∀ n, Sound P w0 base (exec P n)
  | 0 => by intro cx lo code st e st' h; rw [exec_zero] at h; cases h
  | n + 1 => by rw [exec_succ]; exact stepX_sound hN hm (exec_sound hN hm n)

/-- what the interpreter says of a call that begins with nothing of its own -/
theorem run_sound [E : Env] (hN : Names P) (hm : P.follows .mixedOrders = true) {n : Nat} {f : FuncId} {args : List AV} {v : AV} {H' : Heap} (h : callA P (exec P n) 0 f args Heap.empty = some (v, H')) (w : World) (gl : GlobOK w w.heap.size) (hargs : ∀ a ∈ args, a.OK w w.heap.size 0) (ι : Inj) :
    Calls P f (args.map (AV.conc ι)).toArray w fun e w' => (∃ ι', e = .returned (v.conc ι')) ∧ Below w.heap.size w w' := by
  intro cs
  have s : Sim P w w.heap.size ι Heap.empty w :=
    { below := Below.refl _ _, hb := Nat.le_refl _, gl := gl, inj := (fun b b' x x' hx => by rw [Heap.get_empty] at hx; cases hx), lt := (fun b x hx => by rw [Heap.get_empty] at hx; cases hx),
      lo := (fun b x hx => by rw [Heap.get_empty] at hx; cases hx), ok := (fun b x hx => by rw [Heap.get_empty] at hx; cases hx), rel := (fun b x hx => by rw [Heap.get_empty] at hx; cases hx) }
  obtain ⟨ι', w', fr, h1, h2, h3, h4, h5⟩ := callA_sound hN.summ (exec_sound hN hm n) s h hargs (Nat.zero_le _) cs
  exact ⟨.returned (v.conc ι'), w', fr, ⟨⟨ι', rfl⟩, h1.sim.below⟩, h3, h5, h4⟩
end
end Go.Ab
/-! The abstract interpreter: summaries that are added; steps of symbolic runs. Conditions: none. -/
set_option linter.unusedSimpArgs false
set_option linter.unusedVariables false
namespace Go.Ab
open Go Go.RowKit

/-- one more function whose calls are told by what is proved of them -/
@[instance_reducible] def Env.add (E : Env) (f0 : FuncId) (S : List AV → Option AV) : Env := ⟨E.glob, fun f args => if f = f0 then S args else E.summ f args⟩

mutual
/-- a value without own memory in it is the same in each numbering -/
theorem conc_rf (ι ι' : Inj) : ∀ v : AV, v.rf = true → v.conc ι' = v.conc ι
  | .bool _, _ | .int _ _, _ | .str _, _ | .nilp, _ | .nilf, _ | .nili, _ | .map none, _ | .rptr _ _, _ | .rsl _ _ _ _, _ => rfl
  | .ptr _ _, k | .sl _ _ _ _, k | .map (some _), k | .yieldf _, k => by simp [AV.rf] at k
  | .func _ a b, k => by simp only [AV.rf, Bool.and_eq_true] at k; simp only [AV.conc, concL_rf ι ι' a k.1, concL_rf ι ι' b k.2]
  | .iface _ v, k => by simp only [AV.rf] at k; simp only [AV.conc, conc_rf ι ι' v k]
  | .agg l, k | .tup l, k => by simp only [AV.rf] at k; simp only [AV.conc, concL_rf ι ι' l k]
theorem concL_rf (ι ι' : Inj) : ∀ l : List AV, AV.rfL l = true → AV.concL ι' l = AV.concL ι l
  | [], _ => rfl
  | v :: vs, k => by simp only [AV.rfL, Bool.and_eq_true] at k; simp only [AV.concL, conc_rf ι ι' v k.1, concL_rf ι ι' vs k.2]
end

theorem SummOK.add {E : Env} {P : Program} (hN : Names P) (hm : P.follows .mixedOrders = true) {f0 : FuncId} {S : List AV → Option AV}
    (h : ∀ args v, S args = some v → v.rf = true ∧ (∃ n H', callA P (exec P n) 0 f0 args Heap.empty = some (v, H')) ∧ ∀ w0 base, AV.OKL w0 base 0 args → v.OK w0 base 0) : @SummOK (E.add f0 S) P := by
  intro f args v hs hrf
  change (if f = f0 then S args else E.summ f args) = some v at hs
  split at hs
  · rename_i e
    subst e
    obtain ⟨h1, ⟨n, H', h2⟩, h3⟩ := h args v hs
    refine ⟨h3, fun w ι gl hok => ?_⟩
    refine (run_sound hN hm h2 w gl ((OKL_iff ..).1 hok) ι).mono fun e w' ⟨⟨ι', he⟩, hb⟩ => ⟨?_, hb⟩
    rw [he, conc_rf ι ι' v h1]
  · exact hN.summ f args v hs hrf
theorem Names.add {E : Env} {P : Program} (hN : Names P) (hm : P.follows .mixedOrders = true) {f0 : FuncId} {S : List AV → Option AV}
    (h : ∀ args v, S args = some v → v.rf = true ∧ (∃ n H', callA P (exec P n) 0 f0 args Heap.empty = some (v, H')) ∧ ∀ w0 base, AV.OKL w0 base 0 args → v.OK w0 base 0) : @Names (E.add f0 S) P :=
  @Names.mk (E.add f0 S) P hN.names (SummOK.add hN hm h)

section
variable {P : Program} {n : Nat} {cx : Ctx} {lo : Nat} {st : St}
theorem ex_seq [E : Env] {a b : Code} : exec P (n + 1) cx lo (.seq a b) st = (match exec P n cx lo a st with | some (.normal, st) => exec P n cx lo b st | r => r) := rfl
theorem ex_ret [E : Env] : exec P (n + 1) cx lo .ret st = some (.ret, st) := rfl
theorem ex_exit [E : Env] {i : Nat} : exec P (n + 1) cx lo (.exit i) st = some (.exit i, st) := rfl
theorem ex_skip [E : Env] : exec P (n + 1) cx lo .skip st = some (.normal, st) := rfl
theorem ex_cond [E : Env] {x : Operand} {a b : Code} : exec P (n + 1) cx lo (.cond x a b) st = (match evalO st.env x with
    | some (.bool t) => exec P n cx lo (if t then a else b) st
    | _ => none) := rfl
theorem ex_block [E : Env] {i : Nat} {a : Code} : exec P (n + 1) cx lo (.block i a) st = (match exec P n cx lo a st with
    | some (.exit id', st) => some (if id' = i then .normal else .exit id', st)
    | r => r) := rfl
theorem ex_loop [E : Env] {a : Code} : exec P (n + 1) cx lo (.loop a) st = (match exec P n cx lo a st with
    | some (.normal, st) => exec P n cx lo (.loop a) st
    | r => r) := rfl
theorem ex_region [E : Env] {i : Nat} {ops : Array Oper} : exec P (n + 1) cx lo (.region i ops false) st = (match runOps P (exec P n) lo ops ops.toList st.env st.H with | some (env, H) => some (.normal, ⟨env, st.marks, H⟩) | none => none) := rfl
theorem ex_draw [E : Env] {i : Nat} {ops : Array Oper} : exec P (n + 1) cx lo (.region i ops true) st = (match runDraw P (exec P n) lo ops st.env st.H with | some (env, H) => some (.normal, ⟨env, st.marks, H⟩) | none => none) := rfl
end
end Go.Ab
/-! The abstract interpreter: steps of symbolic runs, for 'simp': what comes behind is not touched before what stands ahead is known. Conditions: none. -/
set_option linter.unusedSimpArgs false
set_option linter.unusedVariables false
namespace Go.Ab
open Go Go.RowKit

/-- what comes behind a run that ends normally -/
def nxt (r : Option (Ex × St)) (k : St → Option (Ex × St)) : Option (Ex × St) := match r with | some (.normal, st) => k st | r => r
@[congr] theorem nxt_congr {r r' : Option (Ex × St)} {k : St → Option (Ex × St)} (h : r = r') : nxt r k = nxt r' k := by rw [h]
theorem nxt_normal {st : St} {k : St → Option (Ex × St)} : nxt (some (.normal, st)) k = k st := id rfl
theorem nxt_ret {st : St} {k : St → Option (Ex × St)} : nxt (some (.ret, st)) k = some (.ret, st) := id rfl
theorem nxt_exit {st : St} {i : Nat} {k : St → Option (Ex × St)} : nxt (some (.exit i, st)) k = some (.exit i, st) := id rfl
def blk (i : Nat) (r : Option (Ex × St)) : Option (Ex × St) := match r with | some (.exit id', st) => some (if id' = i then .normal else .exit id', st) | r => r
theorem blk_normal {st : St} {i : Nat} : blk i (some (.normal, st)) = some (.normal, st) := id rfl
theorem blk_ret {st : St} {i : Nat} : blk i (some (.ret, st)) = some (.ret, st) := id rfl
theorem blk_exit {st : St} {i : Nat} : blk i (some (.exit i, st)) = some (.normal, st) := by simp [blk]
theorem blk_exit_ne {st : St} {i j : Nat} (h : j ≠ i) : blk i (some (.exit j, st)) = some (.exit j, st) := by simp [blk, h]
def reg (m : List Nat) (r : Option (List AV × Heap)) : Option (Ex × St) := match r with | some (env, H) => some (.normal, ⟨env, m, H⟩) | none => none
theorem reg_some {m : List Nat} {env : List AV} {H : Heap} : reg m (some (env, H)) = some (.normal, ⟨env, m, H⟩) := id rfl
def cnd (x : Option AV) (a b : Unit → Option (Ex × St)) : Option (Ex × St) := match x with | some (.bool true) => a () | some (.bool false) => b () | _ => none
@[congr] theorem cnd_congr {x x' : Option AV} {a b : Unit → Option (Ex × St)} (h : x = x') : cnd x a b = cnd x' a b := by rw [h]
theorem cnd_true {a b : Unit → Option (Ex × St)} : cnd (some (.bool true)) a b = a () := id rfl
theorem cnd_false {a b : Unit → Option (Ex × St)} : cnd (some (.bool false)) a b = b () := id rfl
/-- an operation and what comes behind it -/
def opr (r : Option (AV × Heap)) (k : AV → Heap → Option (List AV × Heap)) : Option (List AV × Heap) := match r with | some (v, H) => k v H | none => none
@[congr] theorem opr_congr {r r' : Option (AV × Heap)} {k : AV → Heap → Option (List AV × Heap)} (h : r = r') : opr r k = opr r' k := by rw [h]
theorem opr_some {v : AV} {H : Heap} {k : AV → Heap → Option (List AV × Heap)} : opr (some (v, H)) k = k v H := id rfl
def grd (b : Bool) (x y : Unit → Option (List AV × Heap)) : Option (List AV × Heap) := match b with | true => x () | false => y ()
@[congr] theorem grd_congr {b b' : Bool} {x y : Unit → Option (List AV × Heap)} (h : b = b') : grd b x y = grd b' x y := by rw [h]
theorem grd_true {x y : Unit → Option (List AV × Heap)} : grd true x y = x () := id rfl
theorem grd_false {x y : Unit → Option (List AV × Heap)} : grd false x y = y () := id rfl

section
/-- what comes behind, in a form into which 'simp' does not go -/
def Kx [E : Env] (P : Program) (n : Nat) (cx : Ctx) (lo : Nat) (c : Code) (st : St) : Option (Ex × St) := exec P n cx lo c st
def Ku [E : Env] (P : Program) (n : Nat) (cx : Ctx) (lo : Nat) (c : Code) (st : St) (_ : Unit) : Option (Ex × St) := exec P n cx lo c st
def Ko [E : Env] (P : Program) (ex : ExF) (lo : Nat) (ops : Array Oper) (rest : List Oper) (env : List AV) (d : Option Tmp) (v : AV) (H : Heap) : Option (List AV × Heap) := runOps P ex lo ops rest (putE env d v) H
def Ky [E : Env] (P : Program) (ex : ExF) (lo : Nat) (ops : Array Oper) (o : Oper) (rest : List Oper) (env : List AV) (H : Heap) (_ : Unit) : Option (List AV × Heap) := opr (opA P ex lo env H o) (Ko P ex lo ops rest env o.dst)
def Kn [E : Env] (P : Program) (ex : ExF) (lo : Nat) (ops : Array Oper) (rest : List Oper) (env : List AV) (H : Heap) (d : Option Tmp) (_ : Unit) : Option (List AV × Heap) := runOps P ex lo ops rest (putE env d undefA) H
variable {P : Program} {n : Nat} {cx : Ctx} {lo : Nat} {st : St} {ex : ExF}
theorem kx [E : Env] {c : Code} : Kx P n cx lo c st = exec P n cx lo c st := id rfl
theorem ku [E : Env] {c : Code} {u : Unit} : Ku P n cx lo c st u = exec P n cx lo c st := id rfl
theorem ko [E : Env] {ops : Array Oper} {rest : List Oper} {env : List AV} {d : Option Tmp} {v : AV} {H : Heap} : Ko P ex lo ops rest env d v H = runOps P ex lo ops rest (putE env d v) H := id rfl
theorem ky [E : Env] {ops : Array Oper} {o : Oper} {rest : List Oper} {env : List AV} {H : Heap} {u : Unit} : Ky P ex lo ops o rest env H u = opr (opA P ex lo env H o) (Ko P ex lo ops rest env o.dst) := id rfl
theorem kn [E : Env] {ops : Array Oper} {rest : List Oper} {env : List AV} {H : Heap} {d : Option Tmp} {u : Unit} : Kn P ex lo ops rest env H d u = runOps P ex lo ops rest (putE env d undefA) H := id rfl
theorem sy_seq [E : Env] {a b : Code} : exec P (n + 1) cx lo (.seq a b) st = nxt (exec P n cx lo a st) (Kx P n cx lo b) := by
  rw [ex_seq]; unfold nxt; rfl
theorem sy_ret [E : Env] : exec P (n + 1) cx lo .ret st = some (.ret, st) := id rfl
theorem sy_exit [E : Env] {i : Nat} : exec P (n + 1) cx lo (.exit i) st = some (.exit i, st) := id rfl
theorem sy_skip [E : Env] : exec P (n + 1) cx lo .skip st = some (.normal, st) := id rfl
theorem sy_cond [E : Env] {x : Operand} {a b : Code} : exec P (n + 1) cx lo (.cond x a b) st = cnd (evalO st.env x) (Ku P n cx lo a st) (Ku P n cx lo b st) := by
  rw [ex_cond]
  unfold cnd
  cases evalO st.env x with
  | none => rfl
  | some v => cases v <;> try rfl
              rename_i t; cases t <;> rfl
theorem sy_block [E : Env] {i : Nat} {a : Code} : exec P (n + 1) cx lo (.block i a) st = blk i (exec P n cx lo a st) := by rw [ex_block]; unfold blk; rfl
theorem sy_loop [E : Env] {a : Code} : exec P (n + 1) cx lo (.loop a) st = nxt (exec P n cx lo a st) (Kx P n cx lo (.loop a)) := by rw [ex_loop]; unfold nxt; rfl
theorem sy_region [E : Env] {i : Nat} {ops : Array Oper} : exec P (n + 1) cx lo (.region i ops false) st = reg st.marks (runOps P (exec P n) lo ops ops.toList st.env st.H) := by rw [ex_region]; unfold reg; rfl
theorem sy_draw [E : Env] {i : Nat} {ops : Array Oper} : exec P (n + 1) cx lo (.region i ops true) st = reg st.marks (runDraw P (exec P n) lo ops st.env st.H) := by rw [ex_draw]; unfold reg; rfl
theorem sy_nil [E : Env] {ops : Array Oper} {env : List AV} {H : Heap} : runOps P ex lo ops [] env H = some (env, H) := by simp only [runOps]
theorem sy_op [E : Env] {ops : Array Oper} {o : Oper} {rest : List Oper} {env : List AV} {H : Heap} : runOps P ex lo ops (o :: rest) env H =
    grd (Region.wanted o (yieldedA ops env)) (Ky P ex lo ops o rest env H) (Kn P ex lo ops rest env H o.dst) := by
  simp only [runOps]
  cases Region.wanted o (yieldedA ops env)
  · simp [grd, kn]
  · simp only [if_true, grd, ky, opr]; rfl
theorem draw_eq [E : Env] {ops : Array Oper} {bef : Array Nat} {m : Nat} {env : List AV} {H : Heap} (h1 : Region.before ops = bef) (h2 : (raceFree ops bef && edgesOk 0 ops.toList && befOk ops bef) = true) (h3 : quietLen bef ops.size = m) :
    runDraw P ex lo ops env H = (match runQuiet P ex ops bef 0 (ops.toList.take m) env H [] with
    | some (env, H) => runOps P ex lo ops (ops.toList.drop m) env H
    | none => none) := by
  unfold runDraw
  simp only [h1, h2, h3, if_true]; rfl
/-- quiet operations, and what comes behind them -/
def Kq [E : Env] (P : Program) (ex : ExF) (ops : Array Oper) (bef : Array Nat) (i : Nat) (rest : List Oper) (env : List AV) (d : Option Tmp) (kept : List (Nat × Nat × Nat)) (b : Nat) (H0 : Heap) (v : AV) (H : Heap) : Option (List AV × Heap) :=
  if v.all (visA b kept) && newOk (visA b kept) H0 H then runQuiet P ex ops bef (i + 1) rest (putE env d v) H (if H.next = H0.next then kept else (i, H0.next, H.next - H0.next) :: kept) else none
def Kw [E : Env] (P : Program) (ex : ExF) (ops : Array Oper) (bef : Array Nat) (i : Nat) (rest : List Oper) (env : List AV) (d : Option Tmp) (kept : List (Nat × Nat × Nat)) (b : Nat) (H0 : Heap) (rd : Bool) (v : AV) (H : Heap) : Option (List AV × Heap) :=
  if !v.all (visA b kept) then none else
  if rd || v.rf then runQuiet P ex ops bef (i + 1) rest (putE env d v) H0 kept
  else if !newOk (visA b kept) H0 H then none
  else runQuiet P ex ops bef (i + 1) rest (putE env d v) (growH H0 H) ((i, H0.next, H.next - H0.next) :: kept)
def Kf [E : Env] (P : Program) (ex : ExF) (ops : Array Oper) (bef : Array Nat) (i : Nat) (o : Oper) (rest : List Oper) (env : List AV) (kept : List (Nat × Nat × Nat)) (b : Nat) (H : Heap) (_ : Unit) : Option (List AV × Heap) :=
  opr (opA P ex H.next env H o) (Kq P ex ops bef i rest env o.dst kept b H)
def Kv [E : Env] (P : Program) (ex : ExF) (ops : Array Oper) (bef : Array Nat) (i : Nat) (o : Oper) (rest : List Oper) (env : List AV) (kept : List (Nat × Nat × Nat)) (b : Nat) (H : Heap) (_ : Unit) : Option (List AV × Heap) :=
  opr (opA P ex H.next env (viewA H b kept) o) (Kw P ex ops bef i rest env o.dst kept b H (onlyReads o.op))
def Ke [E : Env] (P : Program) (ex : ExF) (ops : Array Oper) (bef : Array Nat) (i : Nat) (o : Oper) (rest : List Oper) (env : List AV) (kept : List (Nat × Nat × Nat)) (b : Nat) (H : Heap) (_ : Unit) : Option (List AV × Heap) :=
  grd (heapFree o.op) (Kf P ex ops bef i o rest env kept b H) (Kv P ex ops bef i o rest env kept b H)
def Ks [E : Env] (P : Program) (ex : ExF) (ops : Array Oper) (bef : Array Nat) (i : Nat) (rest : List Oper) (env : List AV) (d : Option Tmp) (kept : List (Nat × Nat × Nat)) (H : Heap) (_ : Unit) : Option (List AV × Heap) :=
  runQuiet P ex ops bef (i + 1) rest (putE env d undefA) H kept
/-- what comes behind the quiet operations -/
def Kd [E : Env] (P : Program) (ex : ExF) (lo : Nat) (ops : Array Oper) (rest : List Oper) (env : List AV) (H : Heap) : Option (List AV × Heap) := runOps P ex lo ops rest env H
def drw (r : Option (List AV × Heap)) (k : List AV → Heap → Option (List AV × Heap)) : Option (List AV × Heap) := match r with | some (env, H) => k env H | none => none
theorem drw_some {env : List AV} {H : Heap} {k : List AV → Heap → Option (List AV × Heap)} : drw (some (env, H)) k = k env H := id rfl
theorem kd [E : Env] {ops : Array Oper} {rest : List Oper} {env : List AV} {H : Heap} : Kd P ex lo ops rest env H = runOps P ex lo ops rest env H := id rfl
section
variable {ops : Array Oper} {bef : Array Nat} {i b : Nat} {o : Oper} {rest : List Oper} {env : List AV} {H H0 : Heap} {kept : List (Nat × Nat × Nat)} {d : Option Tmp} {v : AV} {u : Unit} {rd : Bool}
theorem qy_nil [E : Env] : runQuiet P ex ops bef i [] env H kept = some (env, H) := by simp only [runQuiet]
theorem qy_op [E : Env] : runQuiet P ex ops bef i (o :: rest) env H kept = grd (Region.wanted o (yieldedA ops env)) (Ke P ex ops bef i o rest env kept (bef.getD i 0) H) (Ks P ex ops bef i rest env o.dst kept H) := by
  simp only [runQuiet]
  cases Region.wanted o (yieldedA ops env)
  · simp [grd, Ks]
  · simp only [if_true, grd, Ke]
    cases heapFree o.op
    · simp only [Kv, opr, Kw, Bool.false_eq_true, if_false]; rfl
    · simp only [Kf, opr, Kq, if_true]; rfl
theorem ke [E : Env] : Ke P ex ops bef i o rest env kept b H u = grd (heapFree o.op) (Kf P ex ops bef i o rest env kept b H) (Kv P ex ops bef i o rest env kept b H) := id rfl
theorem kf [E : Env] : Kf P ex ops bef i o rest env kept b H u = opr (opA P ex H.next env H o) (Kq P ex ops bef i rest env o.dst kept b H) := id rfl
theorem kv [E : Env] : Kv P ex ops bef i o rest env kept b H u = opr (opA P ex H.next env (viewA H b kept) o) (Kw P ex ops bef i rest env o.dst kept b H (onlyReads o.op)) := id rfl
theorem ks [E : Env] : Ks P ex ops bef i rest env d kept H u = runQuiet P ex ops bef (i + 1) rest (putE env d undefA) H kept := id rfl
theorem kq_same [E : Env] (hv : v.all (visA b kept) = true) : Kq P ex ops bef i rest env d kept b H v H = runQuiet P ex ops bef (i + 1) rest (putE env d v) H kept := by
  simp [Kq, hv, newOk]
theorem kw_same [E : Env] (hv : v.all (visA b kept) = true) (hr : (rd || v.rf) = true) : Kw P ex ops bef i rest env d kept b H0 rd v H = runQuiet P ex ops bef (i + 1) rest (putE env d v) H0 kept := by
  simp only [Kw, hv, hr, Bool.not_true, Bool.false_eq_true, if_false, if_true]
end
theorem viewA_nil {H : Heap} {b : Nat} : viewA H b [] = H := by simp only [viewA]
theorem dy [E : Env] {ops : Array Oper} {bef : Array Nat} {m : Nat} {env : List AV} {H : Heap} (h1 : Region.before ops = bef) (h2 : (raceFree ops bef && edgesOk 0 ops.toList && befOk ops bef) = true) (h3 : quietLen bef ops.size = m) :
    runDraw P ex lo ops env H = drw (runQuiet P ex ops bef 0 (ops.toList.take m) env H []) (Kd P ex lo ops (ops.toList.drop m)) := by
  rw [draw_eq h1 h2 h3]; unfold drw Kd; rfl
end
end Go.Ab
/-! The abstract interpreter without a depth: a fixed point of one step. Conditions: none. -/
set_option linter.unusedSimpArgs false
set_option linter.unusedVariables false
namespace Go.Ab
open Go Go.RowKit
section

/-- one run that is leant on -/
structure Use where
  cx : Ctx
  lo : Nat
  c : Code
  st : St
  r : Ex × St
def Use.of (u : Use) (ex : ExF) : Prop := ex u.cx u.lo u.c u.st = some u.r
/-- it holds because of finitely many runs -/
def Fin (ex : ExF) (Q : ExF → Prop) : Prop := ∃ L : List Use, (∀ u ∈ L, u.of ex) ∧ ∀ ex', (∀ u ∈ L, u.of ex') → Q ex'
theorem Fin.run {ex : ExF} {cx : Ctx} {lo : Nat} {c : Code} {st : St} {r : Ex × St} (h : ex cx lo c st = some r) : Fin ex fun ex' => ex' cx lo c st = some r :=
  ⟨[⟨cx, lo, c, st, r⟩], by simpa [Use.of] using h, fun ex' k => by simpa [Use.of] using k⟩
theorem Fin.pure {ex : ExF} {Q : ExF → Prop} (h : ∀ ex', Q ex') : Fin ex Q := ⟨[], by simp, fun ex' _ => h ex'⟩
theorem Fin.imp {ex : ExF} {Q R : ExF → Prop} (h : Fin ex Q) (k : ∀ ex', Q ex' → R ex') : Fin ex R := by
  obtain ⟨L, h1, h2⟩ := h; exact ⟨L, h1, fun ex' h => k ex' (h2 ex' h)⟩
theorem Fin.both {ex : ExF} {Q R S : ExF → Prop} (h : Fin ex Q) (k : Fin ex R) (f : ∀ ex', Q ex' → R ex' → S ex') : Fin ex S := by
  obtain ⟨L, h1, h2⟩ := h; obtain ⟨M, k1, k2⟩ := k
  exact ⟨L ++ M, fun u hu => (List.mem_append.1 hu).elim (h1 u) (k1 u), fun ex' h => f ex' (h2 ex' fun u hu => h u (by simp [hu])) (k2 ex' fun u hu => h u (by simp [hu]))⟩

variable {P : Program} {ex : ExF}
theorem callA_fin [E : Env] {lo : Nat} {f : FuncId} {args : List AV} {H : Heap} {r : AV × Heap} (h : callA P ex lo f args H = some r) : Fin ex fun ex' => callA P ex' lo f args H = some r := by
  cases hf : P.funcs[f]? with
  | none => simp [callA, hf] at h
  | some fn =>
  cases hb : fn.body with
  | none => simp [callA, hf, hb] at h
  | some c =>
  cases hs : E.summ f args with
  | some v =>
    refine Fin.pure fun ex' => ?_
    unfold callA at h ⊢
    simp only [hf, hb, hs] at h ⊢
    exact h
  | none =>
  cases hx : ex ⟨f, none⟩ (if AV.rfL args = true then H.next else lo) c ⟨args ++ List.replicate (fn.ntmps - args.length) undefA, [], H⟩ with
  | none => simp [callA, hf, hb, hs, hx] at h
  | some q =>
    refine (Fin.run hx).imp fun ex' h' => ?_
    unfold callA at h ⊢
    simp only [hf, hb, hs, hx, h'] at h ⊢
    exact h
theorem roundA_fin [E : Env] {lo l : Nat} {args : List AV} {H : Heap} {r : AV × Heap} (h : roundA ex lo l args H = some r) : Fin ex fun ex' => roundA ex' lo l args H = some r := by
  unfold roundA at h
  split at h
  · rename_i st pend fn tmps params assign body d hl
    split at h
    · rename_i hlo
      cases hp : setParams tmps params args with
      | none => simp [hp] at h
      | some env =>
      simp only [hp] at h
      cases hx : ex ⟨fn, some l⟩ lo assign ⟨env, [], H⟩ with
      | none => simp [hx] at h
      | some q =>
      simp only [hx] at h
      split at h
      · rename_i env' H' hq
        cases hq
        split at h
        · rename_i pend fn1 tmps1 params1 assign1 body1 d1 hg
          cases hy : ex ⟨fn, some l⟩ lo body ⟨env', [], H'.set l (.loop .busy pend fn1 tmps1 params1 assign1 body1 d1)⟩ with
          | none => simp [hy] at h
          | some q2 =>
            refine (Fin.run hx).both (Fin.run hy) fun ex' h1 h2 => ?_
            unfold roundA
            simp only [hl, hlo, if_true, hp, h1, hg, h2]
            rw [hy] at h
            exact h
        · cases h
      · cases h
    · cases h
  · cases h
theorem callV_fin [E : Env] {lo : Nat} {f : AV} {args : List AV} {H : Heap} {r : AV × Heap} (h : callV P ex lo f args H = some r) : Fin ex fun ex' => callV P ex' lo f args H = some r := by
  unfold callV at h ⊢
  split at h
  · exact callA_fin h
  · exact roundA_fin h
  · cases h
theorem opA_fin [E : Env] {lo : Nat} {env : List AV} {H : Heap} {o : Oper} {r : AV × Heap} (h : opA P ex lo env H o = some r) : Fin ex fun ex' => opA P ex' lo env H o = some r := by
  by_cases hc : ∃ f args ts, o.op = .call { callee := .value f, args := args, argTypes := ts }
  · obtain ⟨f, args, ts, ho⟩ := hc
    simp only [opA, ho] at h
    obtain ⟨f', h1, h2⟩ := bind1 h
    obtain ⟨vs, h3, h4⟩ := bind1 h2
    refine (callV_fin h4).imp fun ex' k => ?_
    simp only [opA, ho, h1, h3, Option.bind]; exact k
  · have e : ∀ ex : ExF, opA P ex lo env H o = aop P lo env H o := by
      intro ex
      unfold opA
      split
      · rename_i ho; exact absurd ⟨_, _, _, ho⟩ hc
      · rfl
    refine Fin.pure fun ex' => ?_
    rw [e] at h ⊢; exact h
theorem runOps_fin [E : Env] {lo : Nat} {ops : Array Oper} : ∀ (l : List Oper) {env : List AV} {H : Heap} {r : List AV × Heap}, runOps P ex lo ops l env H = some r → Fin ex fun ex' => runOps P ex' lo ops l env H = some r
  | [], env, H, r, h => Fin.pure fun _ => h
  | o :: rest, env, H, r, h => by
    simp only [runOps] at h ⊢
    split at h
    · rename_i hw
      simp only [hw, if_true]
      cases ho : opA P ex lo env H o with
      | none => simp [ho] at h
      | some q =>
      simp only [ho] at h
      refine (opA_fin ho).both (runOps_fin rest h) fun ex' h1 h2 => ?_
      simp only [h1]; exact h2
    · rename_i hw
      simp only [hw]
      exact runOps_fin rest h
theorem runQuiet_fin [E : Env] {ops : Array Oper} {bef : Array Nat} : ∀ (l : List Oper) {i : Nat} {env : List AV} {H : Heap} {kept : List (Nat × Nat × Nat)} {r : List AV × Heap}, runQuiet P ex ops bef i l env H kept = some r → Fin ex fun ex' => runQuiet P ex' ops bef i l env H kept = some r
  | [], i, env, H, kept, r, h => Fin.pure fun _ => by simpa only [runQuiet] using h
  | o :: rest, i, env, H, kept, r, h => by
    simp only [runQuiet] at h ⊢
    split at h
    · rename_i hw
      simp only [hw, if_true]
      split at h
      · rename_i hf
        simp only [hf, if_true]
        cases ho : opA P ex H.next env H o with
        | none => simp [ho] at h
        | some q =>
        simp only [ho] at h
        split at h
        · rename_i hc
          refine (opA_fin ho).both (runQuiet_fin rest h) fun ex' h1 h2 => ?_
          simp only [h1, hc, if_true]; exact h2
        · cases h
      · rename_i hf
        simp only [hf, Bool.false_eq_true, if_false]
        cases ho : opA P ex H.next env (viewA H (bef.getD i 0) kept) o with
        | none => rw [ho] at h; cases h
        | some q =>
        simp only [ho] at h
        split at h
        · cases h
        · rename_i hc
          split at h
          · rename_i hd
            refine (opA_fin ho).both (runQuiet_fin rest h) fun ex' h1 h2 => ?_
            simp only [h1, hc, hd, if_true]; exact h2
          · rename_i hd
            split at h
            · cases h
            · rename_i he
              refine (opA_fin ho).both (runQuiet_fin rest h) fun ex' h1 h2 => ?_
              simp only [h1, hc, hd, he]; exact h2
    · rename_i hw
      simp only [hw]
      exact runQuiet_fin rest h
theorem runDraw_fin [E : Env] {lo : Nat} {ops : Array Oper} {env : List AV} {H : Heap} {r : List AV × Heap} (h : runDraw P ex lo ops env H = some r) : Fin ex fun ex' => runDraw P ex' lo ops env H = some r := by
  unfold runDraw at h ⊢
  dsimp only at h ⊢
  split at h
  · rename_i hc
    simp only [hc, if_true]
    split at h
    · rename_i env1 H1 hq
      refine (runQuiet_fin _ hq).both (runOps_fin _ h) fun ex' h1 h2 => ?_
      simp only [h1]; exact h2
    · cases h
  · cases h
theorem stepX_fin [E : Env] {cx : Ctx} {lo : Nat} {c : Code} {st : St} {r : Ex × St} (h : stepX P ex cx lo c st = some r) : Fin ex fun ex' => stepX P ex' cx lo c st = some r := by
  cases c with
  | skip => exact Fin.pure fun _ => h
  | ret => exact Fin.pure fun _ => h
  | exit id => exact Fin.pure fun _ => h
  | region id ops draw =>
    simp only [stepX] at h ⊢
    cases draw with
    | true =>
      simp only [if_true] at h ⊢
      split at h
      · rename_i env H hq
        refine (runDraw_fin hq).imp fun ex' h1 => ?_
        simp only [h1]; exact h
      · cases h
    | false =>
      simp only [Bool.false_eq_true, if_false] at h ⊢
      split at h
      · rename_i env H hq
        refine (runOps_fin _ hq).imp fun ex' h1 => ?_
        simp only [h1]; exact h
      · cases h
  | seq a b =>
    simp only [stepX] at h ⊢
    split at h
    · rename_i st' hx
      refine (Fin.run hx).both (Fin.run h) fun ex' h1 h2 => ?_
      simp only [h1]; exact h2
    · rename_i hn
      refine (Fin.run h).imp fun ex' h1 => ?_
      rw [h1]
      split
      · rename_i st' he; exact absurd (h.trans he) (hn st')
      · rfl
  | cond x a b =>
    simp only [stepX] at h
    split at h
    · rename_i t he
      refine (Fin.run h).imp fun ex' h1 => ?_
      simp only [stepX, he]
      exact h1
    · cases h
  | block id a =>
    simp only [stepX] at h ⊢
    split at h
    · rename_i id' st' hx
      refine (Fin.run hx).imp fun ex' h1 => ?_
      simp only [h1]; exact h
    · rename_i hn
      refine (Fin.run h).imp fun ex' h1 => ?_
      rw [h1]
      split
      · rename_i id' st' he; exact absurd (h.trans he) (hn id' st')
      · rfl
  | loop a =>
    simp only [stepX] at h ⊢
    split at h
    · rename_i st' hx
      refine (Fin.run hx).both (Fin.run h) fun ex' h1 h2 => ?_
      simp only [h1]; exact h2
    · rename_i hn
      refine (Fin.run h).imp fun ex' h1 => ?_
      rw [h1]
      split
      · rename_i st' he; exact absurd (h.trans he) (hn st')
      · rfl
  | rangeFunc f params assign body =>
    simp only [stepX] at h ⊢
    cases hf : evalO st.env f with
    | none => simp [hf] at h
    | some fv =>
    simp only [hf] at h ⊢
    cases hl : loopStart cx.rnd st.marks st.H with
    | none => simp [hl] at h
    | some q =>
    obtain ⟨d, marks, H⟩ := q
    simp only [hl] at h ⊢
    cases fv with
    | func g first cap =>
      simp only at h ⊢
      split at h
      · rename_i v H' hc
        refine (callA_fin hc).imp fun ex' h1 => ?_
        simp only [h1]; exact h
      · cases h
    | _ => simp at h
  | _ => simp [stepX] at h

/-- the interpreter: what it says at some depth -/
noncomputable def om [E : Env] (P : Program) : ExF := fun cx lo c st => by
  classical exact if h : ∃ r, ∃ n, exec P n cx lo c st = some r then some h.choose else none

theorem Fin.mono {Q : ExF → Prop} {ex' : ExF} (h : Fin ex Q) (k : ∀ cx lo c st r, ex cx lo c st = some r → ex' cx lo c st = some r) : Q ex' := by
  obtain ⟨L, h1, h2⟩ := h
  exact h2 ex' fun u hu => k _ _ _ _ _ (h1 u hu)
theorem exec_le [E : Env] : ∀ n cx lo c st r, exec P n cx lo c st = some r → exec P (n + 1) cx lo c st = some r
  | 0, _, _, _, _, _, h => by rw [exec_zero] at h; cases h
  | n + 1, cx, lo, c, st, r, h => by
    rw [exec_succ] at h ⊢
    exact (stepX_fin h).mono (exec_le n)
theorem exec_mono [E : Env] {n m : Nat} (h : n ≤ m) : ∀ cx lo c st r, exec P n cx lo c st = some r → exec P m cx lo c st = some r := by
  induction h with
  | refl => exact fun _ _ _ _ _ h => h
  | step _ ih => exact fun cx lo c st r h => exec_le _ _ _ _ _ _ (ih cx lo c st r h)
theorem om_of [E : Env] {n : Nat} {cx : Ctx} {lo : Nat} {c : Code} {st : St} {r : Ex × St} (h : exec P n cx lo c st = some r) : om P cx lo c st = some r := by
  unfold om
  have hex : ∃ r, ∃ n, exec P n cx lo c st = some r := ⟨r, n, h⟩
  rw [dif_pos hex]
  obtain ⟨m, hm⟩ := hex.choose_spec
  have e1 := exec_mono (Nat.le_max_left n m) _ _ _ _ _ h
  have e2 := exec_mono (Nat.le_max_right n m) _ _ _ _ _ hm
  rw [e1] at e2
  exact e2.symm
theorem of_om [E : Env] {cx : Ctx} {lo : Nat} {c : Code} {st : St} {r : Ex × St} (h : om P cx lo c st = some r) : ∃ n, exec P n cx lo c st = some r := by
  unfold om at h
  split at h
  · rename_i hex
    have := hex.choose_spec
    cases h
    exact this
  · cases h
/-- what follows from runs of 'om' follows from runs at a depth -/
theorem Fin.depth [E : Env] {Q : ExF → Prop} (h : Fin (om P) Q) : ∃ n, ∀ m, n ≤ m → Q (exec P m) := by
  obtain ⟨L, h1, h2⟩ := h
  suffices ∃ n, ∀ m, n ≤ m → ∀ u ∈ L, u.of (exec P m) by
    obtain ⟨n, hn⟩ := this; exact ⟨n, fun m hm => h2 _ (hn m hm)⟩
  clear h2
  induction L with
  | nil => exact ⟨0, by simp⟩
  | cons u L ih =>
    obtain ⟨n, hn⟩ := ih fun v hv => h1 v (by simp [hv])
    obtain ⟨k, hk⟩ := of_om (h1 u (by simp))
    refine ⟨max n k, fun m hm v hv => ?_⟩
    rcases List.mem_cons.1 hv with rfl | hv
    · exact exec_mono (by omega) _ _ _ _ _ hk
    · exact hn m (by omega) v hv
theorem om_eq [E : Env] (cx : Ctx) (lo : Nat) (c : Code) (st : St) : om P cx lo c st = stepX P (om P) cx lo c st := by
  apply Option.ext
  intro r
  constructor
  · intro h
    obtain ⟨n, hn⟩ := of_om h
    cases n with
    | zero => rw [exec_zero] at hn; cases hn
    | succ n =>
      rw [exec_succ] at hn
      exact (stepX_fin hn).mono fun _ _ _ _ _ h => om_of h
  · intro h
    obtain ⟨n, hn⟩ := (stepX_fin h).depth
    exact om_of (n := n + 1) (by rw [exec_succ]; exact hn n (Nat.le_refl n))
theorem callA_depth [E : Env] {lo : Nat} {f : FuncId} {args : List AV} {H : Heap} {r : AV × Heap} (h : callA P (om P) lo f args H = some r) : ∃ n, callA P (exec P n) lo f args H = some r := by
  obtain ⟨n, hn⟩ := (callA_fin h).depth
  exact ⟨n, hn n (Nat.le_refl n)⟩
end
end Go.Ab
/-! The abstract interpreter without a depth: steps of symbolic runs, for 'simp'. Conditions: none. -/
set_option linter.unusedSimpArgs false
set_option linter.unusedVariables false
set_option linter.unusedSectionVars false
namespace Go.Ab
open Go Go.RowKit

/-! ### where a piece of code lies -/
/-- the loop in a block: the block's body, or the last part of it -/
def firstC : Code → Code
  | .seq _ b => firstC b
  | c => c
/-- the loop in the block of that number -/
def loopIn (id : Nat) : Code → Option Code
  | .seq a b => match loopIn id a with | some c => some c | none => loopIn id b
  | .cond _ a b => match loopIn id a with | some c => some c | none => loopIn id b
  | .block i a => if i = id then some (firstC a) else loopIn id a
  | .loop a => loopIn id a
  | .scope a => loopIn id a
  | .rangeFunc _ _ a b => match loopIn id a with | some c => some c | none => loopIn id b
  | _ => none
/-- the operations of the region of that number -/
def regIn (id : Nat) : Code → Option (Array Oper)
  | .seq a b => match regIn id a with | some c => some c | none => regIn id b
  | .cond _ a b => match regIn id a with | some c => some c | none => regIn id b
  | .block _ a => regIn id a
  | .loop a => regIn id a
  | .scope a => regIn id a
  | .rangeFunc _ _ a b => match regIn id a with | some c => some c | none => regIn id b
  | .region i ops _ => if i = id then some ops else none
  | _ => none
def loopAt (f : Func) (id : Nat) : Code := (loopIn id (f.body.getD .skip)).getD .skip
def regAt (f : Func) (id : Nat) : Array Oper := (regIn id (f.body.getD .skip)).getD #[]

/-- how many operations of a region stand in an open order (if the region is such that this is known) -/
def drawLen (ops : Array Oper) : Option Nat :=
  let bef := Region.before ops
  if raceFree ops bef && edgesOk 0 ops.toList && befOk ops bef then some (quietLen bef ops.size) else none

mutual
theorem all_true : ∀ v : AV, v.all (fun _ => true) = true
  | .func _ a b => by simp [AV.all, allL_true a, allL_true b]
  | .iface _ v => by simp [AV.all, all_true v]
  | .agg l | .tup l => by simp [AV.all, allL_true l]
  | .map none | .map (some _) | .ptr _ _ | .sl _ _ _ _ | .yieldf _ | .bool _ | .int _ _ | .str _ | .nilp | .rptr _ _ | .rsl _ _ _ _ | .nilf | .nili => rfl
theorem allL_true : ∀ l : List AV, AV.allL (fun _ => true) l = true
  | [] => rfl
  | v :: vs => by simp [AV.allL, all_true v, allL_true vs]
end

section
/-- operations in an open order that leave the heap as it is -/
noncomputable def runStill [E : Env] (P : Program) (ex : ExF) (ops : Array Oper) : List Oper → List AV → Heap → Option (List AV × Heap)
  | [], env, H => some (env, H)
  | o :: rest, env, H =>
    if Region.wanted o (yieldedA ops env) then
      match opA P ex H.next env H o with
      | some (v, H') => if @decide (H' = H) (Classical.propDecidable _) && (heapFree o.op || (onlyReads o.op || v.rf)) then runStill P ex ops rest (putE env o.dst v) H else none
      | none => none
    else runStill P ex ops rest (putE env o.dst undefA) H

theorem visA_nil [E : Env] {b : Nat} : visA b [] = fun _ => true := by funext x; rfl
variable {P : Program} {ex : ExF} {cx : Ctx} {lo : Nat} {st : St}
theorem runStill_quiet [E : Env] {ops : Array Oper} {bef : Array Nat} : ∀ (l : List Oper) (i : Nat) (env : List AV) (H : Heap) (r : List AV × Heap),
    runStill P ex ops l env H = some r → runQuiet P ex ops bef i l env H [] = some r
  | [], i, env, H, r, h => by simpa only [runQuiet, runStill] using h
  | o :: rest, i, env, H, r, h => by
    simp only [runStill] at h
    simp only [runQuiet, visA_nil, viewA]
    split at h
    · rename_i hw
      simp only [hw, if_true]
      cases ho : opA P ex H.next env H o with
      | none => rw [ho] at h; cases h
      | some q =>
      obtain ⟨v, H'⟩ := q
      rw [ho] at h
      simp only at h
      split at h
      · rename_i e
        simp only [Bool.and_eq_true, decide_eq_true_eq] at e
        obtain ⟨e, hc⟩ := e
        subst e
        have ih := runStill_quiet (bef := bef) rest (i + 1) _ H' r h
        have hv := all_true v
        cases hf : heapFree o.op with
        | true =>
          have hn : newOk (fun _ => true) H' H' = true := by simp [newOk]
          simp only [if_true, hv, hn, Bool.and_self]
          exact ih
        | false =>
          simp only [hf, Bool.false_or] at hc
          simp only [Bool.false_eq_true, if_false, hv, Bool.not_true, hc, if_true]
          exact ih
      · cases h
    · rename_i hw
      simp only [hw]
      exact runStill_quiet rest (i + 1) _ H r h

/-! ### steps -/
/-- what comes behind, in a form into which 'simp' does not go -/
noncomputable def Ox [E : Env] (P : Program) (cx : Ctx) (lo : Nat) (c : Code) (st : St) : Option (Ex × St) := om P cx lo c st
noncomputable def Ou [E : Env] (P : Program) (cx : Ctx) (lo : Nat) (c : Code) (st : St) (_ : Unit) : Option (Ex × St) := om P cx lo c st
theorem ox [E : Env] {c : Code} : Ox P cx lo c st = om P cx lo c st := id rfl
theorem ou [E : Env] {c : Code} {u : Unit} : Ou P cx lo c st u = om P cx lo c st := id rfl
theorem oy_seq [E : Env] {a b : Code} : om P cx lo (.seq a b) st = nxt (om P cx lo a st) (Ox P cx lo b) := by
  rw [om_eq]; simp only [stepX]; unfold nxt Ox; rfl
theorem oy_ret [E : Env] : om P cx lo .ret st = some (.ret, st) := by rw [om_eq]; simp only [stepX]
theorem oy_exit [E : Env] {i : Nat} : om P cx lo (.exit i) st = some (.exit i, st) := by rw [om_eq]; simp only [stepX]
theorem oy_skip [E : Env] : om P cx lo .skip st = some (.normal, st) := by rw [om_eq]; simp only [stepX]
theorem oy_cond [E : Env] {x : Operand} {a b : Code} : om P cx lo (.cond x a b) st = cnd (evalO st.env x) (Ou P cx lo a st) (Ou P cx lo b st) := by
  rw [om_eq]
  simp only [stepX]
  unfold cnd
  cases evalO st.env x with
  | none => rfl
  | some v => cases v <;> try rfl
              rename_i t; cases t <;> rfl
theorem oy_block [E : Env] {i : Nat} {a : Code} : om P cx lo (.block i a) st = blk i (om P cx lo a st) := by rw [om_eq]; simp only [stepX]; unfold blk; rfl
theorem oy_loop [E : Env] {a : Code} : om P cx lo (.loop a) st = nxt (om P cx lo a st) (Ox P cx lo (.loop a)) := by rw [om_eq]; simp only [stepX]; unfold nxt Ox; rfl
theorem oy_region [E : Env] {i : Nat} {ops : Array Oper} : om P cx lo (.region i ops false) st = reg st.marks (runOps P (om P) lo ops ops.toList st.env st.H) := by
  rw [om_eq]; simp only [stepX, Bool.false_eq_true, if_false]; unfold reg; rfl
/-- what comes behind operations in an open order -/
def stl (r : Option (List AV × Heap)) (k : List AV → Heap → Option (List AV × Heap)) : Option (List AV × Heap) := match r with | some (env, H) => k env H | none => none
theorem stl_some [E : Env] {env : List AV} {H : Heap} {k : List AV → Heap → Option (List AV × Heap)} : stl (some (env, H)) k = k env H := id rfl
@[congr] theorem stl_congr [E : Env] {r r' : Option (List AV × Heap)} {k : List AV → Heap → Option (List AV × Heap)} (h : r = r') : stl r k = stl r' k := by rw [h]
/-- a region whose order is open: so that it can be rewritten; 'dr' tells what it comes to -/
noncomputable def Dr [E : Env] (P : Program) (lo : Nat) (ops : Array Oper) (l : Option Nat) (env : List AV) (H : Heap) : Option (List AV × Heap) := runDraw P (om P) lo ops env H
theorem oy_draw [E : Env] {i : Nat} {ops : Array Oper} : om P cx lo (.region i ops true) st = reg st.marks (Dr P lo ops (drawLen ops) st.env st.H) := by
  rw [om_eq]; simp only [stepX, if_true]; unfold reg Dr; rfl
theorem drawLen_some [E : Env] {ops : Array Oper} {m : Nat} (h : drawLen ops = some m) : (raceFree ops (Region.before ops) && edgesOk 0 ops.toList && befOk ops (Region.before ops)) = true ∧ quietLen (Region.before ops) ops.size = m := by
  unfold drawLen at h
  dsimp only at h
  split at h
  · rename_i hc; cases h; exact ⟨hc, rfl⟩
  · cases h
/-- a region all whose open operations leave the heap alone -/
theorem draw_still [E : Env] {ops : Array Oper} {m : Nat} {env : List AV} {H : Heap} {r : List AV × Heap} (h : drawLen ops = some m)
    (hr : stl (runStill P (om P) ops (ops.toList.take m) env H) (Kd P (om P) lo ops (ops.toList.drop m)) = some r) : runDraw P (om P) lo ops env H = some r := by
  obtain ⟨h1, h2⟩ := drawLen_some h
  rw [dy rfl h1 h2]
  unfold stl at hr
  split at hr
  · rename_i env1 H1 hq
    rw [runStill_quiet _ _ _ _ _ hq, drw_some]; exact hr
  · cases hr
/-- the first answer, if there is one -/
def dre (x y : Option (List AV × Heap)) : Option (List AV × Heap) := match x with | some r => some r | none => y
@[congr] theorem dre_congr [E : Env] {x x' y : Option (List AV × Heap)} (h : x = x') : dre x y = dre x' y := by rw [h]
theorem dre_some [E : Env] {r : List AV × Heap} {y : Option (List AV × Heap)} : dre (some r) y = some r := id rfl
theorem dr_eq [E : Env] {ops : Array Oper} {m : Nat} {env : List AV} {H : Heap} (h : drawLen ops = some m) :
    Dr P lo ops (some m) env H = dre (stl (runStill P (om P) ops (ops.toList.take m) env H) (Kd P (om P) lo ops (ops.toList.drop m))) (runDraw P (om P) lo ops env H) := by
  cases hq : stl (runStill P (om P) ops (ops.toList.take m) env H) (Kd P (om P) lo ops (ops.toList.drop m)) with
  | none => rfl
  | some r => rw [dre_some]; exact draw_still h hq
/-- an open operation, and what comes behind it -/
noncomputable def Os [E : Env] (P : Program) (ops : Array Oper) (rest : List Oper) (env : List AV) (d : Option Tmp) (op : Op) (H : Heap) (v : AV) (H' : Heap) : Option (List AV × Heap) :=
  if @decide (H' = H) (Classical.propDecidable _) && (heapFree op || (onlyReads op || v.rf)) then runStill P (om P) ops rest (putE env d v) H else none
noncomputable def Ot [E : Env] (P : Program) (ops : Array Oper) (o : Oper) (rest : List Oper) (env : List AV) (H : Heap) (_ : Unit) : Option (List AV × Heap) :=
  opr (opA P (om P) H.next env H o) (Os P ops rest env o.dst o.op H)
noncomputable def Ov [E : Env] (P : Program) (ops : Array Oper) (rest : List Oper) (env : List AV) (H : Heap) (d : Option Tmp) (_ : Unit) : Option (List AV × Heap) := runStill P (om P) ops rest (putE env d undefA) H
theorem os_same [E : Env] {ops : Array Oper} {rest : List Oper} {env : List AV} {d : Option Tmp} {op : Op} {H : Heap} {v : AV} (h : (heapFree op || (onlyReads op || v.rf)) = true) :
    Os P ops rest env d op H v H = runStill P (om P) ops rest (putE env d v) H := by
  simp [Os, h]
theorem ot [E : Env] {ops : Array Oper} {o : Oper} {rest : List Oper} {env : List AV} {H : Heap} {u : Unit} : Ot P ops o rest env H u = opr (opA P (om P) H.next env H o) (Os P ops rest env o.dst o.op H) := id rfl
theorem ov [E : Env] {ops : Array Oper} {rest : List Oper} {env : List AV} {H : Heap} {d : Option Tmp} {u : Unit} : Ov P ops rest env H d u = runStill P (om P) ops rest (putE env d undefA) H := id rfl
theorem st_nil [E : Env] {ops : Array Oper} {env : List AV} {H : Heap} : runStill P ex ops [] env H = some (env, H) := by simp only [runStill]
theorem st_op [E : Env] {ops : Array Oper} {o : Oper} {rest : List Oper} {env : List AV} {H : Heap} : runStill P (om P) ops (o :: rest) env H =
    grd (Region.wanted o (yieldedA ops env)) (Ot P ops o rest env H) (Ov P ops rest env H o.dst) := by
  simp only [runStill]
  cases Region.wanted o (yieldedA ops env)
  · simp [grd, Ov]
  · simp only [if_true, grd, Ot, opr]; rfl
/-- what a call makes of its body's end -/
def fin (P : Program) (own : Bool) (rs : List ResultVar) (H : Heap) (r : Option (Ex × St)) : Option (AV × Heap) :=
  match r with
  | some (.normal, st) | some (.ret, st) => match dropMarks st.H st.marks with
    | some H' => match resultsA P H' st.env rs with
      | some vs => if own && (tupA vs).rf then some (tupA vs, H) else some (tupA vs, H')
      | none => none
    | none => none
  | _ => none
@[congr] theorem fin_congr [E : Env] {own : Bool} {rs : List ResultVar} {H : Heap} {r r' : Option (Ex × St)} (h : r = r') : fin P own rs H r = fin P own rs H r' := by rw [h]
def finv (own : Bool) (H H' : Heap) (r : Option (List AV)) : Option (AV × Heap) := match r with
  | some vs => if own && (tupA vs).rf then some (tupA vs, H) else some (tupA vs, H')
  | none => none
theorem fin_ret [E : Env] {own : Bool} {rs : List ResultVar} {H H' : Heap} {env : List AV} : fin P own rs H (some (.ret, ⟨env, [], H'⟩)) = finv own H H' (resultsA P H' env rs) := by
  simp only [fin, dropMarks, finv]
theorem fin_normal [E : Env] {own : Bool} {rs : List ResultVar} {H H' : Heap} {env : List AV} : fin P own rs H (some (.normal, ⟨env, [], H'⟩)) = finv own H H' (resultsA P H' env rs) := by
  simp only [fin, dropMarks, finv]
theorem finv_some [E : Env] {own : Bool} {H H' : Heap} {vs : List AV} : finv own H H' (some vs) = if own && (tupA vs).rf then some (tupA vs, H) else some (tupA vs, H') := id rfl
theorem call_eq [E : Env] {f : FuncId} {fn : Func} {c : Code} {args : List AV} {H : Heap} (hf : P.funcs[f]? = some fn) (hb : fn.body = some c) (hs : E.summ f args = none) :
    callA P (om P) lo f args H = fin P (AV.rfL args) fn.results.toList H (om P ⟨f, none⟩ (if AV.rfL args then H.next else lo) c ⟨args ++ List.replicate (fn.ntmps - args.length) undefA, [], H⟩) := by
  unfold callA
  simp only [hf, hb, hs]
  unfold fin
  rfl
end
/-- nothing known from without -/
@[instance_reducible] def noEnv : Env := ⟨fun _ => none, fun _ _ => none⟩
theorem noEnv_summ (f : FuncId) (args : List AV) : noEnv.summ f args = none := rfl
end Go.Ab
/-! Whole numbers as the interpreter reckons them, in Lean's own terms. Conditions: the bounds in each statement. -/
set_option linter.unusedSimpArgs false
set_option linter.unusedVariables false
namespace Go.Ab
open Go

/-- what an operation's slot says to a guard -/
def yv : Option AV → Option Bool
  | some (.bool b) => some b
  | _ => none
theorem yielded_yv {ops : Array Oper} {env : List AV} {j : Nat} : yieldedA ops env j = yv (((ops[j]?).bind (·.dst)).bind (env[·]?)) := by
  unfold yieldedA yv; rfl
theorem yv_bool {b : Bool} : yv (some (.bool b)) = some b := id rfl
theorem yv_undef : yv (some undefA) = none := id rfl
theorem yv_none : yv none = none := id rfl
theorem og_n {b : Bool} : ((none : Option Bool) == some b) = false := id rfl
theorem og_tt : (some true == some true) = true := id rfl
theorem og_ff : (some false == some false) = true := id rfl
theorem og_tf : (some true == some false) = false := id rfl
theorem og_ft : (some false == some true) = false := id rfl
section
variable {k : IntKind} {a b : Int}
theorem bi_add : binIntA .add k a b = some (.int k (k.wrap (a + b))) := id rfl
theorem bi_sub : binIntA .sub k a b = some (.int k (k.wrap (a - b))) := id rfl
theorem bi_mul : binIntA .mul k a b = some (.int k (k.wrap (a * b))) := id rfl
theorem bi_quo (h : b ≠ 0) : binIntA .quo k a b = some (.int k (k.wrap (a.tdiv b))) := by simp [binIntA, h]
theorem bi_rem (h : b ≠ 0) : binIntA .rem k a b = some (.int k (a.tmod b)) := by simp [binIntA, h]
theorem bi_eql : binIntA .eql k a b = some (.bool (a == b)) := id rfl
theorem bi_neq : binIntA .neq k a b = some (.bool (a != b)) := id rfl
theorem bi_lss : binIntA .lss k a b = some (.bool (decide (a < b))) := id rfl
theorem bi_leq : binIntA .leq k a b = some (.bool (decide (a ≤ b))) := id rfl
theorem bi_gtr : binIntA .gtr k a b = some (.bool (decide (b < a))) := id rfl
theorem bi_geq : binIntA .geq k a b = some (.bool (decide (b ≤ a))) := id rfl
end
theorem wrap_u64 (n : Nat) : IntKind.u64.wrap (n : Int) = ((n % 2 ^ 64 : Nat) : Int) := by
  simp [IntKind.wrap, IntKind.bits, IntKind.signed]
theorem wrap_u64_lt {n : Nat} (h : n < 2 ^ 64) : IntKind.u64.wrap (n : Int) = (n : Int) := by
  rw [wrap_u64, Nat.mod_eq_of_lt h]
theorem wi64 {n : Int} (h : -9223372036854775808 ≤ n) (h' : n ≤ 9223372036854775807) : IntKind.i64.wrap n = n := wrap_i64 h h'
theorem wi64_nat {n : Nat} (h : n < 2 ^ 63) : IntKind.i64.wrap (n : Int) = (n : Int) := wi64 (by omega) (by omega)
theorem ofInt_nat (n : Nat) : BitVec.ofInt 64 (n : Int) = BitVec.ofNat 64 n := by simp
theorem toNat_ofNat64 {n : Nat} (h : n < 2 ^ 64) : (BitVec.ofNat 64 n).toNat = n := by simp; omega
theorem u64_and {a b : Nat} (ha : a < 2 ^ 64) (hb : b < 2 ^ 64) : binIntA .and .u64 (a : Int) (b : Int) = some (.int .u64 ((a &&& b : Nat) : Int)) := by
  have : (BitVec.ofInt 64 (a : Int) &&& BitVec.ofInt 64 (b : Int)).toNat = a &&& b := by
    rw [ofInt_nat, ofInt_nat, BitVec.toNat_and, toNat_ofNat64 ha, toNat_ofNat64 hb]
  show some (AV.int .u64 (IntKind.u64.wrap ((BitVec.ofInt 64 (a : Int) &&& BitVec.ofInt 64 (b : Int)).toNat : Int))) = _
  rw [this, wrap_u64_lt (Nat.lt_of_le_of_lt Nat.and_le_left ha)]
theorem u64_or {a b : Nat} (ha : a < 2 ^ 64) (hb : b < 2 ^ 64) : binIntA .or .u64 (a : Int) (b : Int) = some (.int .u64 ((a ||| b : Nat) : Int)) := by
  have : (BitVec.ofInt 64 (a : Int) ||| BitVec.ofInt 64 (b : Int)).toNat = a ||| b := by
    rw [ofInt_nat, ofInt_nat, BitVec.toNat_or, toNat_ofNat64 ha, toNat_ofNat64 hb]
  show some (AV.int .u64 (IntKind.u64.wrap ((BitVec.ofInt 64 (a : Int) ||| BitVec.ofInt 64 (b : Int)).toNat : Int))) = _
  rw [this, wrap_u64_lt (Nat.or_lt_two_pow ha hb)]
theorem u64_xor {a b : Nat} (ha : a < 2 ^ 64) (hb : b < 2 ^ 64) : binIntA .xor .u64 (a : Int) (b : Int) = some (.int .u64 ((a ^^^ b : Nat) : Int)) := by
  have : (BitVec.ofInt 64 (a : Int) ^^^ BitVec.ofInt 64 (b : Int)).toNat = a ^^^ b := by
    rw [ofInt_nat, ofInt_nat, BitVec.toNat_xor, toNat_ofNat64 ha, toNat_ofNat64 hb]
  show some (AV.int .u64 (IntKind.u64.wrap ((BitVec.ofInt 64 (a : Int) ^^^ BitVec.ofInt 64 (b : Int)).toNat : Int))) = _
  rw [this, wrap_u64_lt (Nat.xor_lt_two_pow ha hb)]
theorem u64_andNot {a b : Nat} (ha : a < 2 ^ 64) (hb : b < 2 ^ 64) : binIntA .andNot .u64 (a : Int) (b : Int) = some (.int .u64 ((a &&& (2 ^ 64 - 1 - b) : Nat) : Int)) := by
  have : (BitVec.ofInt 64 (a : Int) &&& ~~~ BitVec.ofInt 64 (b : Int)).toNat = a &&& (2 ^ 64 - 1 - b) := by
    rw [ofInt_nat, ofInt_nat, BitVec.toNat_and, BitVec.toNat_not, toNat_ofNat64 ha, toNat_ofNat64 hb]
  show some (AV.int .u64 (IntKind.u64.wrap ((BitVec.ofInt 64 (a : Int) &&& ~~~ BitVec.ofInt 64 (b : Int)).toNat : Int))) = _
  rw [this, wrap_u64_lt (Nat.lt_of_le_of_lt Nat.and_le_left ha)]
theorem u64_shl {a y : Nat} (hy : y ≤ 64) : shiftA .shl .u64 (a : Int) (y : Int) = some (.int .u64 ((a * 2 ^ y % 2 ^ 64 : Nat) : Int)) := by
  have h0 : ¬ ((y : Int) < 0) := by omega
  simp only [shiftA, h0, if_false, Int.toNat_natCast, IntKind.bits, Nat.min_eq_left hy]
  have : (a : Int) * 2 ^ y = ((a * 2 ^ y : Nat) : Int) := by push_cast; rfl
  rw [this, wrap_u64]
theorem u64_shr {a y : Nat} (hy : y ≤ 64) : shiftA .shr .u64 (a : Int) (y : Int) = some (.int .u64 ((a / 2 ^ y : Nat) : Int)) := by
  have h0 : ¬ ((y : Int) < 0) := by omega
  simp only [shiftA, h0, if_false, Int.toNat_natCast, IntKind.bits, Nat.min_eq_left hy]
  have h2 : (0 : Int) ≤ 2 ^ y := Int.pow_nonneg (by decide)
  have : Int.fdiv (a : Int) (2 ^ y) = ((a / 2 ^ y : Nat) : Int) := by
    rw [Int.fdiv_eq_ediv_of_nonneg _ h2]
    push_cast; rfl
  rw [this]
theorem i64_shl {a : Int} {y : Nat} (hy : y ≤ 64) (h1 : -9223372036854775808 ≤ a * 2 ^ y) (h2 : a * 2 ^ y ≤ 9223372036854775807) : shiftA .shl .i64 a (y : Int) = some (.int .i64 (a * 2 ^ y)) := by
  have h0 : ¬ ((y : Int) < 0) := by omega
  simp only [shiftA, h0, if_false, Int.toNat_natCast, IntKind.bits, Nat.min_eq_left hy, wi64 h1 h2]
theorem i64_shr {a : Int} {y : Nat} (hy : y ≤ 64) : shiftA .shr .i64 a (y : Int) = some (.int .i64 (a / 2 ^ y)) := by
  have h0 : ¬ ((y : Int) < 0) := by omega
  simp only [shiftA, h0, if_false, Int.toNat_natCast, IntKind.bits, Nat.min_eq_left hy]
  rw [Int.fdiv_eq_ediv_of_nonneg _ (Int.pow_nonneg (by decide))]
end Go.Ab
/-! Symbolic runs: a range over a function, and a frame with the loop's mark. Conditions: in each statement. -/
set_option linter.unusedSimpArgs false
set_option linter.unusedVariables false
namespace Go.Ab
open Go
theorem oy_range [E : Env] {P : Program} {lo : Nat} {f : Operand} {params : Array Tmp} {assign body : Code} {env : List AV} {marks : List Nat} {H H3 : Heap} {fn g : FuncId} {first cap : List AV} {v0 : AV}
    {fn' : FuncId} {tm' : List AV} {pa' : List Tmp} {a' b' : Code} {d' : Nat} (hf : evalO env f = some (.func g first cap))
    (hc : callA P (om P) lo g (first ++ [AV.yieldf (H.next + 1)] ++ cap) ((H.push .dfr).push (.loop .ready none fn env params.toList assign body H.next)) = some (v0, H3))
    (hl : H3.get (H.next + 1) = some (.loop .ready none fn' tm' pa' a' b' d')) :
    om P ⟨fn, none⟩ lo (.rangeFunc f params assign body) ⟨env, marks, H⟩ = some (.normal, ⟨env, H.next :: marks, H3.kill (H.next + 1)⟩) := by
  rw [om_eq]
  simp only [stepX, hf, loopStart]
  have e : (H.push .dfr).next = H.next + 1 := rfl
  simp only [e, hc, hl]
  rfl
theorem roundA_ok [E : Env] {P : Program} {lo l : Nat} {args : List AV} {H H2 H4 : Heap} {s0 : LoopState} {p0 : Option Code} {fn : FuncId} {tmps : List AV} {params : List Tmp} {assign body : Code} {d : Nat} {env1 env2 env3 : List AV}
    (h0 : H.get l = some (.loop s0 p0 fn tmps params assign body d)) (hlo : lo ≤ l) (hp : setParams tmps params args = some env1)
    (ha : om P ⟨fn, some l⟩ lo assign ⟨env1, [], H⟩ = some (.normal, ⟨env2, [], H2⟩)) (h2 : H2.get l = some (.loop .ready none fn tmps params assign body d))
    (hb : om P ⟨fn, some l⟩ lo body ⟨env2, [], H2.set l (.loop .busy none fn tmps params assign body d)⟩ = some (.normal, ⟨env3, [], H4⟩)) (h4 : H4.get l = some (.loop .busy none fn tmps params assign body d)) :
    roundA (om P) lo l args H = some (.bool true, H4.set l (.loop .ready none fn tmps params assign body d)) := by
  unfold roundA
  simp only [h0, hlo, if_true, hp, ha, h2, hb, endRoundA, h4]
  rfl
theorem fin_mark [E : Env] {P : Program} {own : Bool} {rs : List ResultVar} {H H' : Heap} {env : List AV} {d : Nat} (h : H'.get d = some .dfr) : fin P own rs H (some (.ret, ⟨env, [d], H'⟩)) = finv own H (H'.kill d) (resultsA P (H'.kill d) env rs) := by
  simp only [fin, dropMarks, h, finv]
end Go.Ab
