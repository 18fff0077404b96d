/- What the law's proof leans on, part 37. Conditions: in each statement. -/
import Derived.Test.YtibehelnfbcnjaaGreatDoorQW11
set_option linter.all false
set_option linter.unusedSimpArgs false
set_option linter.unusedVariables false
namespace Go.Ab
open Go Go.RowKit
structure RC where
  fn : FuncId
  kind : CallKind
  rnd : Option Nat
def F (c : RC) (a : Act) (todo : List Item) : Frame := { fn := c.fn, tmps := a.tmps, todo, defers := a.defers, mode := .run, kind := c.kind, roundOf := c.rnd }
section
variable {P : Program} {c : RC} {a : Act} {k : List Item} {cs : List Frame} {w : World}
theorem yajy (todo : List Item) : (F c a todo).eval = a.eval := by funext x; cases x <;> rfl
theorem yap3 : step P (lone (F c a (.code .skip :: k)) cs w) = .next (lone (F c a k) cs w) := step_lone_go (by simp [stepG, stepG.exec, F])
theorem yaat {id : Nat} : step P (lone (F c a (.inBlock id :: k)) cs w) = .next (lone (F c a k) cs w) := step_lone_go (by simp [stepG, stepG.exec, F])
theorem yafq {x y : Code} : step P (lone (F c a (.code (.seq x y) :: k)) cs w) = .next (lone (F c a (.code x :: .code y :: k)) cs w) := step_lone_go (by simp [stepG, stepG.exec, F])
theorem yafn [E : Env] {o : Operand} {x y : Code} {t : Bool} (h : a.eval o = .bool t) : step P (lone (F c a (.code (.cond o x y) :: k)) cs w) = .next (lone (F c a (.code (if t then x else y) :: k)) cs w) :=
  step_lone_go (by
    have := congrFun (yajy (c := c) (a := a) (.code (.cond o x y) :: k)) o
    simp only [F] at this
    simp [stepG, stepG.exec, F, this, h])
theorem zmr {id : Nat} {x : Code} : step P (lone (F c a (.code (.block id x) :: k)) cs w) = .next (lone (F c a (.code x :: .inBlock id :: k)) cs w) := step_lone_go (by simp [stepG, stepG.exec, F])
theorem zry {x : Code} : step P (lone (F c a (.code (.loop x) :: k)) cs w) = .next (lone (F c a (.code x :: .inLoop x :: k)) cs w) := step_lone_go (by simp [stepG, stepG.exec, F])
theorem yafo {x : Code} : step P (lone (F c a (.inLoop x :: k)) cs w) = .next (lone (F c a (.code x :: .inLoop x :: k)) cs w) := step_lone_go (by simp [stepG, stepG.exec, F])
theorem yap0 {id : Nat} {k' : List Item} (h : exitTo id k = some k') : step P (lone (F c a (.code (.exit id) :: k)) cs w) = .next (lone (F c a k') cs w) := step_lone_go (by simp [stepG, stepG.exec, F, h])
theorem yafp {id : Nat} {ops : Array Oper} : step P (lone (F c a (.code (.region id ops false) :: k)) cs w) = .next (lone (F c a (.inRegion ops (List.range ops.size) :: k)) cs w) :=
  step_lone_go (by simp [stepG, stepG.exec, F])
theorem yapz {id : Nat} {ops : Array Oper} : step P (lone (F c a (.code (.region id ops true) :: k)) cs w) =
    .next (lone (F c a (.inRegion ops (Region.schedule (P.follows .mixedOrders) ops (w.tape w.drawn (.order c.fn id))) :: k)) cs { w with drawn := w.drawn + 1 }) :=
  step_lone_go (by simp [stepG, stepG.exec, F, choose, Sem.run, Question.forced, Question.cut])
theorem zl0 {ops : Array Oper} : step P (lone (F c a (.inRegion ops [] :: k)) cs w) = .next (lone (F c a k) cs w) := step_lone_go (by simp [stepG, stepG.exec, F])
theorem zqe (ops : Array Oper) (i : Nat) (rest : List Nat) (v : Value) :
    (F c a (.inRegion ops (i :: rest) :: k)).finish v = F c (a.put ((ops[i]?).bind (·.dst)) v) (.inRegion ops rest :: k) := by
  cases h : (ops[i]?).bind (·.dst) <;> simp [Frame.finish, F, Act.put, h]
theorem zul [E : Env] {ops : Array Oper} {i : Nat} {rest : List Nat} (h : ((ops[i]?).map (Region.wanted · (yielded ops a.tmps))).getD false = false) :
    step P (lone (F c a (.inRegion ops (i :: rest) :: k)) cs w) = .next (lone (F c (a.put ((ops[i]?).bind (·.dst)) undef) (.inRegion ops rest :: k)) cs w) := by
  rw [← zqe]
  exact step_lone_go (by
    have h' := h
    simp only [F] at *
    simp [stepG, stepG.exec, h'])
theorem zok [E : Env] {ops : Array Oper} {i : Nat} {rest : List Nat} {o : Oper} (ho : ops[i]? = some o) (hw : Region.wanted o (yielded ops a.tmps) = true) (hd : ∀ x, o.op ≠ .defer x) :
    stepG P true { frame := F c a (.inRegion ops (i :: rest) :: k), callers := cs, status := .running, dying := none } w =
      stepG.apply P true (F c a (.inRegion ops (i :: rest) :: k)) cs none (execOp a.eval o) w := by
  have he := yajy (c := c) (a := a) (.inRegion ops (i :: rest) :: k)
  simp only [F] at he
  simp only [stepG, stepG.exec, F, ho, Option.map_some, hw, Option.getD_some, if_true, stepG.oper, Frame.oper?, he]
  split
  · rename_i l x _ hx; exact absurd hx (hd x)
  · rfl
theorem yavu [E : Env] {ops : Array Oper} {i : Nat} {rest : List Nat} {o : Oper} {v : Value} {w' : World} (ho : ops[i]? = some o) (hw : Region.wanted o (yielded ops a.tmps) = true) (hd : ∀ x, o.op ≠ .defer x)
    (h : (execOp a.eval o).run P w = .ok (.value v) w' ∨ (v = undef ∧ (execOp a.eval o).run P w = .ok .skip w')) :
    step P (lone (F c a (.inRegion ops (i :: rest) :: k)) cs w) = .next (lone (F c (a.put o.dst v) (.inRegion ops rest :: k)) cs w') := by
  have hf := zqe (c := c) (a := a) (k := k) ops i rest v
  rw [ho] at hf
  simp only [Option.bind_some] at hf
  refine step_lone_go ?_
  rw [zok ho hw hd, ← hf]
  rcases h with h | ⟨rfl, h⟩ <;> simp [stepG.apply, h]
theorem yaji [E : Env] {ops : Array Oper} {i : Nat} {rest : List Nat} {o : Oper} {f : FuncId} {args : Array Value} {w' : World} (ho : ops[i]? = some o) (hw : Region.wanted o (yielded ops a.tmps) = true) (hd : ∀ x, o.op ≠ .defer x)
    (h : (execOp a.eval o).run P w = .ok (.enter f args) w') :
    step P (lone (F c a (.inRegion ops (i :: rest) :: k)) cs w) = .next (lone (Frame.enter P f args .normal) (F c a (.inRegion ops (i :: rest) :: k) :: cs) w') := by
  refine step_lone_go ?_
  rw [zok ho hw hd]
  simp [stepG.apply, h, F]
theorem yajj [E : Env] {ops : Array Oper} {i : Nat} {rest : List Nat} {o : Oper} {l : Nat} {f : FuncId} {tmps : Array Value} {assign body : Code} {w' : World} (ho : ops[i]? = some o) (hw : Region.wanted o (yielded ops a.tmps) = true) (hd : ∀ x, o.op ≠ .defer x)
    (h : (execOp a.eval o).run P w = .ok (.round l f tmps assign body) w') :
    step P (lone (F c a (.inRegion ops (i :: rest) :: k)) cs w) = .next (lone (F ⟨f, .normal, some l⟩ ⟨tmps, []⟩ [.code assign, .beginRound, .code body]) (F c a (.inRegion ops (i :: rest) :: k) :: cs) w') := by
  refine step_lone_go ?_
  rw [zok ho hw hd]
  simp [stepG.apply, h, F, Frame.round]
theorem zy9 {fr d : Frame} {ds : List Frame} {v : Value} (h : fr.leaving P w (.returned v)) : step P (lone fr (d :: ds) w) = .next (lone (d.finish v) ds w) := step_leave_returned h
theorem zrx {l : Nat} {w' : World} (hc : c.rnd = some l) (h : (Instr.beginRound l).run P w = .ok () w') : step P (lone (F c a (.beginRound :: k)) cs w) = .next (lone (F c a k) cs w') :=
  step_lone_go (by simp [stepG, stepG.exec, F, hc, stepG.apply, h, Frame.finish])
theorem zwr {l : Nat} {v : Value} {w' : World} {d : Frame} {ds : List Frame} (hc : c.rnd = some l) (hk : c.kind = .normal) (h : (Instr.endRound l none).run P w = .ok v w') :
    step P (lone (F c a []) (d :: ds) w) = .next (lone (d.finish v) ds w') :=
  step_lone_go (by simp [stepG, stepG.exec, F, hc, hk, h, doReturn, Sem.runT_eq])
theorem zws {l : Nat} {v : Value} {w' : World} {d : Frame} {ds : List Frame} (hc : c.rnd = some l) (hk : c.kind = .normal) (h : (Instr.endRound l (some .ret)).run P w = .ok v w') :
    step P (lone (F c a (.code .ret :: k)) (d :: ds) w) = .next (lone (d.finish v) ds w') :=
  step_lone_go (by simp [stepG, stepG.exec, F, hc, hk, h, doReturn, Sem.runT_eq])
theorem zuk {id l : Nat} {v : Value} {w' : World} {d : Frame} {ds : List Frame} (hc : c.rnd = some l) (hk : c.kind = .normal) (hx : exitTo id k = none) (h : (Instr.endRound l (some (.exit id))).run P w = .ok v w') :
    step P (lone (F c a (.code (.exit id) :: k)) (d :: ds) w) = .next (lone (d.finish v) ds w') :=
  step_lone_go (by simp [stepG, stepG.exec, F, hc, hk, hx, h, doReturn, Sem.runT_eq])
theorem yavt (hc : c.rnd = none) : step P (lone (F c a (.code .ret :: k)) cs w) = .next (lone { F c a (.code .ret :: k) with mode := .returning } cs w) := step_lone_go (by simp [stepG, stepG.exec, F, hc])
theorem yavs (hc : c.rnd = none) : step P (lone (F c a []) cs w) = .next (lone { F c a [] with mode := .returning } cs w) := step_lone_go (by simp [stepG, stepG.exec, F, hc])
theorem yap1 {fr : Frame} {b : Nat} {xs : Array Value} {ds : List Deferred} {w' : World} (hm : fr.mode = .returning) (hd : fr.defers = { target := .collected b, args := xs } :: ds)
    (h : (Instr.takeDeferred b).run P w = .ok [] w') : step P (lone fr cs w) = .next (lone { fr with defers := ds } cs w') :=
  step_lone_go (by simp [stepG, hm, unwind, hd, h, Sem.runT_eq])
theorem zum {f : Operand} {params : Array Tmp} {assign body : Code} {l : Nat} {mark : List Deferred} {w1 w2 : World} {g : FuncId} {args : Array Value}
    (h : (Instr.enterLoop c.fn a.tmps params assign body c.rnd).run P w = .ok (l, mark) w1)
    (h2 : (do let d ← resolve a.eval { callee := .value f, args := #[.const (.func (.yield l) #[] #[])], argTypes := #[] } 0; invoke d.target d.args : Sem Next).run P w1 = .ok (.enter g args) w2) :
    step P (lone (F c a (.code (.rangeFunc f params assign body) :: k)) cs w) =
      .next (lone (Frame.enter P g args .normal) (F c ⟨a.tmps, mark ++ a.defers⟩ (.inRangeFunc l :: k) :: cs) w2) := by
  have he : ∀ todo ds, ({ fn := c.fn, tmps := a.tmps, todo, defers := ds, mode := .run, kind := c.kind, roundOf := c.rnd } : Frame).eval = a.eval := fun todo ds => by funext x; cases x <;> rfl
  refine step_lone_go ?_
  simp only [stepG, stepG.exec, F, Sem.runT_eq, h, GStep.bare_after, he]
  simp only [stepG.apply, Sem.runT_eq, h2, if_true, GStep.bare_after]
  rfl
theorem yaas {l : Nat} {jump : Option Code} {w' : World} (h : (Instr.endLoop l).run P w = .ok jump w') :
    step P (lone (F c a (.endRangeFunc l :: k)) cs w) = .next (lone (F c a ((jump.map Item.code).toList ++ k)) cs w') :=
  step_lone_go (by simp [stepG, stepG.exec, F, h, Sem.runT_eq])
end
end Go.Ab
