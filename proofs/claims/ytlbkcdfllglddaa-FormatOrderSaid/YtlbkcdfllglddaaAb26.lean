/- The abstract interpreter without a depth: steps of symbolic runs, for 'simp'. Conditions: none. -/
import Derived.Test.YtlbkcdfllglddaaAb25
set_option linter.unusedSimpArgs false
set_option linter.unusedVariables false
set_option linter.unusedSectionVars false
namespace Go.Ab
open Go Go.RowKit

/-! ### where a piece of code lies -/
/-- the loop in a block: the block's body, or the last part of it -/
def firstC : Code → Code
  | .seq _ b => firstC b
  | c => c
/-- the loop in the block of that number -/
def loopIn (id : Nat) : Code → Option Code
  | .seq a b => match loopIn id a with | some c => some c | none => loopIn id b
  | .cond _ a b => match loopIn id a with | some c => some c | none => loopIn id b
  | .block i a => if i = id then some (firstC a) else loopIn id a
  | .loop a => loopIn id a
  | .scope a => loopIn id a
  | .rangeFunc _ _ a b => match loopIn id a with | some c => some c | none => loopIn id b
  | _ => none
/-- the operations of the region of that number -/
def regIn (id : Nat) : Code → Option (Array Oper)
  | .seq a b => match regIn id a with | some c => some c | none => regIn id b
  | .cond _ a b => match regIn id a with | some c => some c | none => regIn id b
  | .block _ a => regIn id a
  | .loop a => regIn id a
  | .scope a => regIn id a
  | .rangeFunc _ _ a b => match regIn id a with | some c => some c | none => regIn id b
  | .region i ops _ => if i = id then some ops else none
  | _ => none
def loopAt (f : Func) (id : Nat) : Code := (loopIn id (f.body.getD .skip)).getD .skip
def regAt (f : Func) (id : Nat) : Array Oper := (regIn id (f.body.getD .skip)).getD #[]

/-- how many operations of a region stand in an open order (if the region is such that this is known) -/
def drawLen (ops : Array Oper) : Option Nat :=
  let bef := Region.before ops
  if raceFree ops bef && edgesOk 0 ops.toList && befOk ops bef then some (quietLen bef ops.size) else none

mutual
theorem all_true : ∀ v : AV, v.all (fun _ => true) = true
  | .func _ a b => by simp [AV.all, allL_true a, allL_true b]
  | .iface _ v => by simp [AV.all, all_true v]
  | .agg l | .tup l => by simp [AV.all, allL_true l]
  | .map none | .map (some _) | .ptr _ _ | .sl _ _ _ _ | .yieldf _ | .bool _ | .int _ _ | .str _ | .nilp | .rptr _ _ | .rsl _ _ _ _ | .nilf | .nili => rfl
theorem allL_true : ∀ l : List AV, AV.allL (fun _ => true) l = true
  | [] => rfl
  | v :: vs => by simp [AV.allL, all_true v, allL_true vs]
end

section
/-- operations in an open order that leave the heap as it is -/
noncomputable def runStill [E : Env] (P : Program) (ex : ExF) (ops : Array Oper) : List Oper → List AV → Heap → Option (List AV × Heap)
  | [], env, H => some (env, H)
  | o :: rest, env, H =>
    if Region.wanted o (yieldedA ops env) then
      match opA P ex H.next env H o with
      | some (v, H') => if @decide (H' = H) (Classical.propDecidable _) && (heapFree o.op || (onlyReads o.op || v.rf)) then runStill P ex ops rest (putE env o.dst v) H else none
      | none => none
    else runStill P ex ops rest (putE env o.dst undefA) H

theorem visA_nil [E : Env] {b : Nat} : visA b [] = fun _ => true := by funext x; rfl
variable {P : Program} {ex : ExF} {cx : Ctx} {lo : Nat} {st : St}
theorem runStill_quiet [E : Env] {ops : Array Oper} {bef : Array Nat} : ∀ (l : List Oper) (i : Nat) (env : List AV) (H : Heap) (r : List AV × Heap),
    runStill P ex ops l env H = some r → runQuiet P ex ops bef i l env H [] = some r
  | [], i, env, H, r, h => by simpa only [runQuiet, runStill] using h
  | o :: rest, i, env, H, r, h => by
    simp only [runStill] at h
    simp only [runQuiet, visA_nil, viewA]
    split at h
    · rename_i hw
      simp only [hw, if_true]
      cases ho : opA P ex H.next env H o with
      | none => rw [ho] at h; cases h
      | some q =>
      obtain ⟨v, H'⟩ := q
      rw [ho] at h
      simp only at h
      split at h
      · rename_i e
        simp only [Bool.and_eq_true, decide_eq_true_eq] at e
        obtain ⟨e, hc⟩ := e
        subst e
        have ih := runStill_quiet (bef := bef) rest (i + 1) _ H' r h
        have hv := all_true v
        cases hf : heapFree o.op with
        | true =>
          have hn : newOk (fun _ => true) H' H' = true := by simp [newOk]
          simp only [if_true, hv, hn, Bool.and_self]
          exact ih
        | false =>
          simp only [hf, Bool.false_or] at hc
          simp only [Bool.false_eq_true, if_false, hv, Bool.not_true, hc, if_true]
          exact ih
      · cases h
    · rename_i hw
      simp only [hw]
      exact runStill_quiet rest (i + 1) _ H r h

/-! ### steps -/
/-- what comes behind, in a form into which 'simp' does not go -/
noncomputable def Ox [E : Env] (P : Program) (cx : Ctx) (lo : Nat) (c : Code) (st : St) : Option (Ex × St) := om P cx lo c st
noncomputable def Ou [E : Env] (P : Program) (cx : Ctx) (lo : Nat) (c : Code) (st : St) (_ : Unit) : Option (Ex × St) := om P cx lo c st
theorem ox [E : Env] {c : Code} : Ox P cx lo c st = om P cx lo c st := id rfl
theorem ou [E : Env] {c : Code} {u : Unit} : Ou P cx lo c st u = om P cx lo c st := id rfl
theorem oy_seq [E : Env] {a b : Code} : om P cx lo (.seq a b) st = nxt (om P cx lo a st) (Ox P cx lo b) := by
  rw [om_eq]; simp only [stepX]; unfold nxt Ox; rfl
theorem oy_ret [E : Env] : om P cx lo .ret st = some (.ret, st) := by rw [om_eq]; simp only [stepX]
theorem oy_exit [E : Env] {i : Nat} : om P cx lo (.exit i) st = some (.exit i, st) := by rw [om_eq]; simp only [stepX]
theorem oy_skip [E : Env] : om P cx lo .skip st = some (.normal, st) := by rw [om_eq]; simp only [stepX]
theorem oy_cond [E : Env] {x : Operand} {a b : Code} : om P cx lo (.cond x a b) st = cnd (evalO st.env x) (Ou P cx lo a st) (Ou P cx lo b st) := by
  rw [om_eq]
  simp only [stepX]
  unfold cnd
  cases evalO st.env x with
  | none => rfl
  | some v => cases v <;> try rfl
              rename_i t; cases t <;> rfl
theorem oy_block [E : Env] {i : Nat} {a : Code} : om P cx lo (.block i a) st = blk i (om P cx lo a st) := by rw [om_eq]; simp only [stepX]; unfold blk; rfl
theorem oy_loop [E : Env] {a : Code} : om P cx lo (.loop a) st = nxt (om P cx lo a st) (Ox P cx lo (.loop a)) := by rw [om_eq]; simp only [stepX]; unfold nxt Ox; rfl
theorem oy_region [E : Env] {i : Nat} {ops : Array Oper} : om P cx lo (.region i ops false) st = reg st.marks (runOps P (om P) lo ops ops.toList st.env st.H) := by
  rw [om_eq]; simp only [stepX, Bool.false_eq_true, if_false]; unfold reg; rfl
/-- what comes behind operations in an open order -/
def stl (r : Option (List AV × Heap)) (k : List AV → Heap → Option (List AV × Heap)) : Option (List AV × Heap) := match r with | some (env, H) => k env H | none => none
theorem stl_some [E : Env] {env : List AV} {H : Heap} {k : List AV → Heap → Option (List AV × Heap)} : stl (some (env, H)) k = k env H := id rfl
@[congr] theorem stl_congr [E : Env] {r r' : Option (List AV × Heap)} {k : List AV → Heap → Option (List AV × Heap)} (h : r = r') : stl r k = stl r' k := by rw [h]
/-- a region whose order is open: so that it can be rewritten; 'dr' tells what it comes to -/
noncomputable def Dr [E : Env] (P : Program) (lo : Nat) (ops : Array Oper) (l : Option Nat) (env : List AV) (H : Heap) : Option (List AV × Heap) := runDraw P (om P) lo ops env H
theorem oy_draw [E : Env] {i : Nat} {ops : Array Oper} : om P cx lo (.region i ops true) st = reg st.marks (Dr P lo ops (drawLen ops) st.env st.H) := by
  rw [om_eq]; simp only [stepX, if_true]; unfold reg Dr; rfl
theorem drawLen_some [E : Env] {ops : Array Oper} {m : Nat} (h : drawLen ops = some m) : (raceFree ops (Region.before ops) && edgesOk 0 ops.toList && befOk ops (Region.before ops)) = true ∧ quietLen (Region.before ops) ops.size = m := by
  unfold drawLen at h
  dsimp only at h
  split at h
  · rename_i hc; cases h; exact ⟨hc, rfl⟩
  · cases h
/-- a region all whose open operations leave the heap alone -/
theorem draw_still [E : Env] {ops : Array Oper} {m : Nat} {env : List AV} {H : Heap} {r : List AV × Heap} (h : drawLen ops = some m)
    (hr : stl (runStill P (om P) ops (ops.toList.take m) env H) (Kd P (om P) lo ops (ops.toList.drop m)) = some r) : runDraw P (om P) lo ops env H = some r := by
  obtain ⟨h1, h2⟩ := drawLen_some h
  rw [dy rfl h1 h2]
  unfold stl at hr
  split at hr
  · rename_i env1 H1 hq
    rw [runStill_quiet _ _ _ _ _ hq, drw_some]; exact hr
  · cases hr
/-- the first answer, if there is one -/
def dre (x y : Option (List AV × Heap)) : Option (List AV × Heap) := match x with | some r => some r | none => y
@[congr] theorem dre_congr [E : Env] {x x' y : Option (List AV × Heap)} (h : x = x') : dre x y = dre x' y := by rw [h]
theorem dre_some [E : Env] {r : List AV × Heap} {y : Option (List AV × Heap)} : dre (some r) y = some r := id rfl
theorem dr_eq [E : Env] {ops : Array Oper} {m : Nat} {env : List AV} {H : Heap} (h : drawLen ops = some m) :
    Dr P lo ops (some m) env H = dre (stl (runStill P (om P) ops (ops.toList.take m) env H) (Kd P (om P) lo ops (ops.toList.drop m))) (runDraw P (om P) lo ops env H) := by
  cases hq : stl (runStill P (om P) ops (ops.toList.take m) env H) (Kd P (om P) lo ops (ops.toList.drop m)) with
  | none => rfl
  | some r => rw [dre_some]; exact draw_still h hq
/-- an open operation, and what comes behind it -/
noncomputable def Os [E : Env] (P : Program) (ops : Array Oper) (rest : List Oper) (env : List AV) (d : Option Tmp) (op : Op) (H : Heap) (v : AV) (H' : Heap) : Option (List AV × Heap) :=
  if @decide (H' = H) (Classical.propDecidable _) && (heapFree op || (onlyReads op || v.rf)) then runStill P (om P) ops rest (putE env d v) H else none
noncomputable def Ot [E : Env] (P : Program) (ops : Array Oper) (o : Oper) (rest : List Oper) (env : List AV) (H : Heap) (_ : Unit) : Option (List AV × Heap) :=
  opr (opA P (om P) H.next env H o) (Os P ops rest env o.dst o.op H)
noncomputable def Ov [E : Env] (P : Program) (ops : Array Oper) (rest : List Oper) (env : List AV) (H : Heap) (d : Option Tmp) (_ : Unit) : Option (List AV × Heap) := runStill P (om P) ops rest (putE env d undefA) H
theorem os_same [E : Env] {ops : Array Oper} {rest : List Oper} {env : List AV} {d : Option Tmp} {op : Op} {H : Heap} {v : AV} (h : (heapFree op || (onlyReads op || v.rf)) = true) :
    Os P ops rest env d op H v H = runStill P (om P) ops rest (putE env d v) H := by
  simp [Os, h]
theorem ot [E : Env] {ops : Array Oper} {o : Oper} {rest : List Oper} {env : List AV} {H : Heap} {u : Unit} : Ot P ops o rest env H u = opr (opA P (om P) H.next env H o) (Os P ops rest env o.dst o.op H) := id rfl
theorem ov [E : Env] {ops : Array Oper} {rest : List Oper} {env : List AV} {H : Heap} {d : Option Tmp} {u : Unit} : Ov P ops rest env H d u = runStill P (om P) ops rest (putE env d undefA) H := id rfl
theorem st_nil [E : Env] {ops : Array Oper} {env : List AV} {H : Heap} : runStill P ex ops [] env H = some (env, H) := by simp only [runStill]
theorem st_op [E : Env] {ops : Array Oper} {o : Oper} {rest : List Oper} {env : List AV} {H : Heap} : runStill P (om P) ops (o :: rest) env H =
    grd (Region.wanted o (yieldedA ops env)) (Ot P ops o rest env H) (Ov P ops rest env H o.dst) := by
  simp only [runStill]
  cases Region.wanted o (yieldedA ops env)
  · simp [grd, Ov]
  · simp only [if_true, grd, Ot, opr]; rfl
/-- what a call makes of its body's end -/
def fin (P : Program) (own : Bool) (rs : List ResultVar) (H : Heap) (r : Option (Ex × St)) : Option (AV × Heap) :=
  match r with
  | some (.normal, st) | some (.ret, st) => match dropMarks st.H st.marks with
    | some H' => match resultsA P H' st.env rs with
      | some vs => if own && (tupA vs).rf then some (tupA vs, H) else some (tupA vs, H')
      | none => none
    | none => none
  | _ => none
@[congr] theorem fin_congr [E : Env] {own : Bool} {rs : List ResultVar} {H : Heap} {r r' : Option (Ex × St)} (h : r = r') : fin P own rs H r = fin P own rs H r' := by rw [h]
def finv (own : Bool) (H H' : Heap) (r : Option (List AV)) : Option (AV × Heap) := match r with
  | some vs => if own && (tupA vs).rf then some (tupA vs, H) else some (tupA vs, H')
  | none => none
theorem fin_ret [E : Env] {own : Bool} {rs : List ResultVar} {H H' : Heap} {env : List AV} : fin P own rs H (some (.ret, ⟨env, [], H'⟩)) = finv own H H' (resultsA P H' env rs) := by
  simp only [fin, dropMarks, finv]
theorem fin_normal [E : Env] {own : Bool} {rs : List ResultVar} {H H' : Heap} {env : List AV} : fin P own rs H (some (.normal, ⟨env, [], H'⟩)) = finv own H H' (resultsA P H' env rs) := by
  simp only [fin, dropMarks, finv]
theorem finv_some [E : Env] {own : Bool} {H H' : Heap} {vs : List AV} : finv own H H' (some vs) = if own && (tupA vs).rf then some (tupA vs, H) else some (tupA vs, H') := id rfl
theorem call_eq [E : Env] {f : FuncId} {fn : Func} {c : Code} {args : List AV} {H : Heap} (hf : P.funcs[f]? = some fn) (hb : fn.body = some c) (hs : E.summ f args = none) :
    callA P (om P) lo f args H = fin P (AV.rfL args) fn.results.toList H (om P ⟨f, none⟩ (if AV.rfL args then H.next else lo) c ⟨args ++ List.replicate (fn.ntmps - args.length) undefA, [], H⟩) := by
  unfold callA
  simp only [hf, hb, hs]
  unfold fin
  rfl
end
/-- nothing known from without -/
@[instance_reducible] def noEnv : Env := ⟨fun _ => none, fun _ _ => none⟩
theorem noEnv_summ (f : FuncId) (args : List AV) : noEnv.summ f args = none := rfl
end Go.Ab
