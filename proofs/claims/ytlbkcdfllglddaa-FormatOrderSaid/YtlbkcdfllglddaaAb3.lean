/- The abstract interpreter: regions, calls, code. No condition: definitions. -/
import Derived.Test.YtlbkcdfllglddaaAb2
namespace Go.Ab
open Go
variable [E : Env]

inductive Ex where
  | normal
  | exit (id : Nat)
  | ret
  | panic (v : AV)

structure St where
  env : List AV
  marks : List Nat
  H : Heap

/-- which function's frame, and the loop whose round it is -/
structure Ctx where
  fn : FuncId
  rnd : Option Nat

abbrev ExF := Ctx → Nat → Code → St → Option (Ex × St)

def resultsA (P : Program) (H : Heap) (env : List AV) : List ResultVar → Option (List AV)
  | [] => some []
  | .tmp t :: rest => match resultsA P H env rest with | some l => some (env.getD t undefA :: l) | none => none
  | .cell a t :: rest => match loadA P H t (env.getD a undefA), resultsA P H env rest with | some v, some l => some (v :: l) | _, _ => none
def tupA : List AV → AV
  | [v] => v
  | vs => .tup vs

def dropMarks (H : Heap) : List Nat → Option Heap
  | [] => some H
  | b :: bs => match H.get b with | some .dfr => dropMarks (H.kill b) bs | _ => none

/-- a Go function is called -/
def callA (P : Program) (ex : ExF) (lo : Nat) (f : FuncId) (args : List AV) (H : Heap) : Option (AV × Heap) :=
  match P.funcs[f]? with
  | none => none
  | some fn => match fn.body with
    | none => none
    | some c =>
    match E.summ f args with
    | some v => if AV.rfL args then some (v, H) else none
    | none =>
      let own := AV.rfL args
      match ex ⟨f, none⟩ (if own then H.next else lo) c ⟨args ++ List.replicate (fn.ntmps - args.length) undefA, [], H⟩ with
      | some (.normal, st) | some (.ret, st) => match dropMarks st.H st.marks with
        | some H' => match resultsA P H' st.env fn.results.toList with
          | some vs => if own && (tupA vs).rf then some (tupA vs, H) else some (tupA vs, H')
          | none => none
        | none => none
      | _ => none

def setParams (env : List AV) : List Tmp → List AV → Option (List AV)
  | [], [] => some env
  | t :: ts, v :: vs => setParams (env.set t v) ts vs
  | _, _ => none

/-- a round of a range over a function -/
def endRoundA (H : Heap) (l : Nat) (jump : Option Code) : Option (AV × Heap) :=
  match H.get l with
  | some (.loop .busy _ fn tmps params assign body d) => some (.bool jump.isNone, H.set l (.loop (if jump.isNone then .ready else .done) jump fn tmps params assign body d))
  | _ => none
def roundA (ex : ExF) (lo l : Nat) (args : List AV) (H : Heap) : Option (AV × Heap) :=
  match H.get l with
  | some (.loop _ _ fn tmps params assign body _) =>
    if lo ≤ l then
      match setParams tmps params args with
      | none => none
      | some env => match ex ⟨fn, some l⟩ lo assign ⟨env, [], H⟩ with
        | some (.normal, ⟨env, [], H⟩) => match H.get l with
          | some (.loop .ready pend fn1 tmps1 params1 assign1 body1 d1) =>
            match ex ⟨fn, some l⟩ lo body ⟨env, [], H.set l (.loop .busy pend fn1 tmps1 params1 assign1 body1 d1)⟩ with
            | some (.normal, ⟨_, [], H⟩) => endRoundA H l none
            | some (.ret, ⟨_, [], H⟩) => endRoundA H l (some .ret)
            | some (.exit id, ⟨_, [], H⟩) => endRoundA H l (some (.exit id))
            | _ => none
          | _ => none
        | _ => none
    else none
  | _ => none

/-- a function value is called -/
def callV (P : Program) (ex : ExF) (lo : Nat) (f : AV) (args : List AV) (H : Heap) : Option (AV × Heap) :=
  match f with
  | .func f first cap => callA P ex lo f (first ++ args ++ cap) H
  | .yieldf l => roundA ex lo l args H
  | _ => none

/-- an operation, calls too -/
def opA (P : Program) (ex : ExF) (lo : Nat) (env : List AV) (H : Heap) (o : Oper) : Option (AV × Heap) :=
  match o.op with
  | .call { callee := .value f, args, .. } => (evalO env f).bind fun f => (evalL env args.toList).bind fun vs => callV P ex lo f vs H
  | _ => aop P lo env H o

def yieldedA (ops : Array Oper) (env : List AV) (j : Nat) : Option Bool :=
  match ((ops[j]?).bind (·.dst)).bind (env[·]?) with
  | some (.bool b) => some b
  | _ => none

/-- a region that goes in the text's order -/
def runOps (P : Program) (ex : ExF) (lo : Nat) (ops : Array Oper) : List Oper → List AV → Heap → Option (List AV × Heap)
  | [], env, H => some (env, H)
  | o :: rest, env, H =>
    if Region.wanted o (yieldedA ops env) then
      match opA P ex lo env H o with
      | some (v, H') => runOps P ex lo ops rest (putE env o.dst v) H'
      | none => none
    else runOps P ex lo ops rest (putE env o.dst undefA) H

/-- ids of blocks that are hidden from an operation -/
def hideR (H : Heap) (a : Nat) : Nat → Heap
  | 0 => H
  | n + 1 => hideR (H.kill a) (a + 1) n
def viewA (H : Heap) (bef : Nat) : List (Nat × Nat × Nat) → Heap
  | [] => H
  | (j, a, n) :: rest => viewA (if bef.testBit j then H else hideR H a n) bef rest

def needs (ops : Array Oper) (o : Oper) : List Tmp :=
  (o.op.operands.toList.filterMap fun | .tmp t => some t | _ => none) ++ (match o.guard with | some (j, _) => (((ops[j]?).bind (·.dst)).toList) | none => [])

/-- no two operations without an order touch one temporary that one of them writes -/
def raceFree (ops : Array Oper) (bef : Array Nat) : Bool :=
  (List.range ops.size).all fun i => (List.range ops.size).all fun j =>
    i == j || (bef.getD i 0).testBit j || (bef.getD j 0).testBit i ||
    match ops[i]?, ops[j]? with
    | some x, some y => (match x.dst with | some d => !(needs ops y).contains d && y.dst != some d | none => true)
    | _, _ => true
def afterAll (bef : Nat) : Nat → Bool
  | 0 => true
  | i + 1 => bef.testBit i && afterAll bef i

/-- operations that neither look into the heap nor change what is there -/
def heapFree : Op → Bool
  | .move _ | .assign _ | .pick .. | .build .. | .nilCheck _ | .binOp .. | .unOp .. | .makeInterface .. | .makeFunc .. | .fieldAddr .. | .field .. | .indexAddr .. | .index .. | .extract ..
  | .alloc _ | .box .. | .buildSlice .. | .makeMap .. | .makeSlice .. => true
  | _ => false
def onlyReads : Op → Bool
  | .load .. | .lookup .. | .slice .. => true
  | _ => false
/-- how many operations are there before those that stand, each, behind all before them -/
def quietLen (bef : Array Nat) : Nat → Nat
  | 0 => 0
  | i + 1 => if afterAll (bef.getD i 0) i then quietLen bef i else i + 1

/-- blocks of K, n of them from a on, laid over H -/
def copyR (H K : Heap) (a : Nat) : Nat → Heap
  | 0 => H
  | n + 1 => copyR (H.setO a (K.get a)) K (a + 1) n
def growH (H K : Heap) : Heap := ⟨H.next + (K.next - H.next), (copyR H K H.next (K.next - H.next)).t⟩

/-- not a block of an operation that need not stand before -/
def visA (bef : Nat) (kept : List (Nat × Nat × Nat)) (b : Nat) : Bool := kept.all fun q => bef.testBit q.1 || !(decide (q.2.1 ≤ b) && decide (b < q.2.1 + q.2.2))
def newOk (p : Nat → Bool) (H H' : Heap) : Bool := (List.range (H'.next - H.next)).all fun k => match H'.get (H.next + k) with | some x => x.all p | none => true

/-- quiet operations, in whatever order. 'kept': (j, a, n): operation j laid the n blocks from a on -/
def runQuiet (P : Program) (ex : ExF) (ops : Array Oper) (bef : Array Nat) : Nat → List Oper → List AV → Heap → List (Nat × Nat × Nat) → Option (List AV × Heap)
  | _, [], env, H, _ => some (env, H)
  | i, o :: rest, env, H, kept =>
    let b := bef.getD i 0
    if Region.wanted o (yieldedA ops env) then
      if heapFree o.op then
        match opA P ex H.next env H o with
        | some (v, H') =>
          if v.all (visA b kept) && newOk (visA b kept) H H' then runQuiet P ex ops bef (i + 1) rest (putE env o.dst v) H' (if H'.next = H.next then kept else (i, H.next, H'.next - H.next) :: kept)
          else none
        | none => none
      else
        match opA P ex H.next env (viewA H b kept) o with
        | some (v, H') =>
          if !v.all (visA b kept) then none else
          if onlyReads o.op || v.rf then runQuiet P ex ops bef (i + 1) rest (putE env o.dst v) H kept
          else if !newOk (visA b kept) H H' then none
          else runQuiet P ex ops bef (i + 1) rest (putE env o.dst v) (growH H H') ((i, H.next, H'.next - H.next) :: kept)
        | none => none
    else runQuiet P ex ops bef (i + 1) rest (putE env o.dst undefA) H kept

/-- each edge that binds leads back -/
def edgesOk : Nat → List Oper → Bool
  | _, [] => true
  | i, o :: rest => (o.after.all fun e => !Region.binds .any e || decide (e.on < i)) && edgesOk (i + 1) rest

/-- 'bef' says what must stand before an operation -/
def befOk (ops : Array Oper) (bef : Array Nat) : Bool :=
  decide (bef.size = ops.size) && (List.range ops.size).all fun i => match ops[i]? with
    | some o => bef.getD i 0 == o.after.toList.foldl (fun s e => if Region.binds .any e then s ||| 2 ^ e.on ||| bef.getD e.on 0 else s) 0
    | none => true

def runDraw (P : Program) (ex : ExF) (lo : Nat) (ops : Array Oper) (env : List AV) (H : Heap) : Option (List AV × Heap) :=
  let bef := Region.before ops
  if raceFree ops bef && edgesOk 0 ops.toList && befOk ops bef then
    let m := quietLen bef ops.size
    match runQuiet P ex ops bef 0 (ops.toList.take m) env H [] with
    | some (env, H) => runOps P ex lo ops (ops.toList.drop m) env H
    | none => none
  else none

/-- where the deferred calls of a loop's rounds are gathered -/
def loopStart (rnd : Option Nat) (marks : List Nat) (H : Heap) : Option (Nat × List Nat × Heap) :=
  match rnd with
  | none => some (H.next, H.next :: marks, H.push .dfr)
  | some l => match H.get l with | some (.loop _ _ _ _ _ _ _ d) => some (d, marks, H) | _ => none

def stepX (P : Program) (ex : ExF) (cx : Ctx) (lo : Nat) (c : Code) (st : St) : Option (Ex × St) :=
  match c with
  | .skip => some (.normal, st)
  | .ret => some (.ret, st)
  | .exit id => some (.exit id, st)
  | .region _ ops draw =>
    match (if draw then runDraw P ex lo ops st.env st.H else runOps P ex lo ops ops.toList st.env st.H) with
    | some (env, H) => some (.normal, ⟨env, st.marks, H⟩)
    | none => none
  | .seq a b => match ex cx lo a st with
    | some (.normal, st) => ex cx lo b st
    | r => r
  | .cond x a b => match evalO st.env x with
    | some (.bool t) => ex cx lo (if t then a else b) st
    | _ => none
  | .block id a => match ex cx lo a st with
    | some (.exit id', st) => some (if id' = id then .normal else .exit id', st)
    | r => r
  | .loop a => match ex cx lo a st with
    | some (.normal, st) => ex cx lo (.loop a) st
    | r => r
  | .rangeFunc f params assign body =>
    match evalO st.env f with
    | none => none
    | some fv =>
      match loopStart cx.rnd st.marks st.H with
      | none => none
      | some (d, marks, H) =>
        match (match fv with
          | .func g first cap => callA P ex lo g (first ++ [AV.yieldf H.next] ++ cap) (H.push (.loop .ready none cx.fn st.env params.toList assign body d))
          | _ => none : Option (AV × Heap)) with
        | some (_, H') => match H'.get H.next with
          | some (.loop st' pend _ _ _ _ _ _) =>
            if st' = .busy then none else
            match pend with
            | none => some (.normal, ⟨st.env, marks, H'.kill H.next⟩)
            | some .ret => some (.ret, ⟨st.env, marks, H'.kill H.next⟩)
            | some (.exit id) => some (.exit id, ⟨st.env, marks, H'.kill H.next⟩)
            | _ => none
          | _ => none
        | none => none
  | _ => none

/-- the interpreter, at a depth -/
def exec (P : Program) (n : Nat) : ExF := Nat.rec (fun _ _ _ _ => none) (fun _ ih => stepX P ih) n

theorem exec_zero (P : Program) : exec P 0 = fun _ _ _ _ => none := rfl
theorem exec_succ (P : Program) (n : Nat) : exec P (n + 1) = stepX P (exec P n) := rfl

end Go.Ab
