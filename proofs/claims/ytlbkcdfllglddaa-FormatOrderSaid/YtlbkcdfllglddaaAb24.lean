/- The abstract interpreter: steps of symbolic runs, for 'simp': what comes behind is not touched before what stands ahead is known. Conditions: none. -/
import Derived.Test.YtlbkcdfllglddaaAb23
set_option linter.unusedSimpArgs false
set_option linter.unusedVariables false
namespace Go.Ab
open Go Go.RowKit

/-- what comes behind a run that ends normally -/
def nxt (r : Option (Ex × St)) (k : St → Option (Ex × St)) : Option (Ex × St) := match r with | some (.normal, st) => k st | r => r
@[congr] theorem nxt_congr {r r' : Option (Ex × St)} {k : St → Option (Ex × St)} (h : r = r') : nxt r k = nxt r' k := by rw [h]
theorem nxt_normal {st : St} {k : St → Option (Ex × St)} : nxt (some (.normal, st)) k = k st := id rfl
theorem nxt_ret {st : St} {k : St → Option (Ex × St)} : nxt (some (.ret, st)) k = some (.ret, st) := id rfl
theorem nxt_exit {st : St} {i : Nat} {k : St → Option (Ex × St)} : nxt (some (.exit i, st)) k = some (.exit i, st) := id rfl
def blk (i : Nat) (r : Option (Ex × St)) : Option (Ex × St) := match r with | some (.exit id', st) => some (if id' = i then .normal else .exit id', st) | r => r
theorem blk_normal {st : St} {i : Nat} : blk i (some (.normal, st)) = some (.normal, st) := id rfl
theorem blk_ret {st : St} {i : Nat} : blk i (some (.ret, st)) = some (.ret, st) := id rfl
theorem blk_exit {st : St} {i : Nat} : blk i (some (.exit i, st)) = some (.normal, st) := by simp [blk]
theorem blk_exit_ne {st : St} {i j : Nat} (h : j ≠ i) : blk i (some (.exit j, st)) = some (.exit j, st) := by simp [blk, h]
def reg (m : List Nat) (r : Option (List AV × Heap)) : Option (Ex × St) := match r with | some (env, H) => some (.normal, ⟨env, m, H⟩) | none => none
theorem reg_some {m : List Nat} {env : List AV} {H : Heap} : reg m (some (env, H)) = some (.normal, ⟨env, m, H⟩) := id rfl
def cnd (x : Option AV) (a b : Unit → Option (Ex × St)) : Option (Ex × St) := match x with | some (.bool true) => a () | some (.bool false) => b () | _ => none
@[congr] theorem cnd_congr {x x' : Option AV} {a b : Unit → Option (Ex × St)} (h : x = x') : cnd x a b = cnd x' a b := by rw [h]
theorem cnd_true {a b : Unit → Option (Ex × St)} : cnd (some (.bool true)) a b = a () := id rfl
theorem cnd_false {a b : Unit → Option (Ex × St)} : cnd (some (.bool false)) a b = b () := id rfl
/-- an operation and what comes behind it -/
def opr (r : Option (AV × Heap)) (k : AV → Heap → Option (List AV × Heap)) : Option (List AV × Heap) := match r with | some (v, H) => k v H | none => none
@[congr] theorem opr_congr {r r' : Option (AV × Heap)} {k : AV → Heap → Option (List AV × Heap)} (h : r = r') : opr r k = opr r' k := by rw [h]
theorem opr_some {v : AV} {H : Heap} {k : AV → Heap → Option (List AV × Heap)} : opr (some (v, H)) k = k v H := id rfl
def grd (b : Bool) (x y : Unit → Option (List AV × Heap)) : Option (List AV × Heap) := match b with | true => x () | false => y ()
@[congr] theorem grd_congr {b b' : Bool} {x y : Unit → Option (List AV × Heap)} (h : b = b') : grd b x y = grd b' x y := by rw [h]
theorem grd_true {x y : Unit → Option (List AV × Heap)} : grd true x y = x () := id rfl
theorem grd_false {x y : Unit → Option (List AV × Heap)} : grd false x y = y () := id rfl

section
/-- what comes behind, in a form into which 'simp' does not go -/
def Kx [E : Env] (P : Program) (n : Nat) (cx : Ctx) (lo : Nat) (c : Code) (st : St) : Option (Ex × St) := exec P n cx lo c st
def Ku [E : Env] (P : Program) (n : Nat) (cx : Ctx) (lo : Nat) (c : Code) (st : St) (_ : Unit) : Option (Ex × St) := exec P n cx lo c st
def Ko [E : Env] (P : Program) (ex : ExF) (lo : Nat) (ops : Array Oper) (rest : List Oper) (env : List AV) (d : Option Tmp) (v : AV) (H : Heap) : Option (List AV × Heap) := runOps P ex lo ops rest (putE env d v) H
def Ky [E : Env] (P : Program) (ex : ExF) (lo : Nat) (ops : Array Oper) (o : Oper) (rest : List Oper) (env : List AV) (H : Heap) (_ : Unit) : Option (List AV × Heap) := opr (opA P ex lo env H o) (Ko P ex lo ops rest env o.dst)
def Kn [E : Env] (P : Program) (ex : ExF) (lo : Nat) (ops : Array Oper) (rest : List Oper) (env : List AV) (H : Heap) (d : Option Tmp) (_ : Unit) : Option (List AV × Heap) := runOps P ex lo ops rest (putE env d undefA) H
variable {P : Program} {n : Nat} {cx : Ctx} {lo : Nat} {st : St} {ex : ExF}
theorem kx [E : Env] {c : Code} : Kx P n cx lo c st = exec P n cx lo c st := id rfl
theorem ku [E : Env] {c : Code} {u : Unit} : Ku P n cx lo c st u = exec P n cx lo c st := id rfl
theorem ko [E : Env] {ops : Array Oper} {rest : List Oper} {env : List AV} {d : Option Tmp} {v : AV} {H : Heap} : Ko P ex lo ops rest env d v H = runOps P ex lo ops rest (putE env d v) H := id rfl
theorem ky [E : Env] {ops : Array Oper} {o : Oper} {rest : List Oper} {env : List AV} {H : Heap} {u : Unit} : Ky P ex lo ops o rest env H u = opr (opA P ex lo env H o) (Ko P ex lo ops rest env o.dst) := id rfl
theorem kn [E : Env] {ops : Array Oper} {rest : List Oper} {env : List AV} {H : Heap} {d : Option Tmp} {u : Unit} : Kn P ex lo ops rest env H d u = runOps P ex lo ops rest (putE env d undefA) H := id rfl
theorem sy_seq [E : Env] {a b : Code} : exec P (n + 1) cx lo (.seq a b) st = nxt (exec P n cx lo a st) (Kx P n cx lo b) := by
  rw [ex_seq]; unfold nxt; rfl
theorem sy_ret [E : Env] : exec P (n + 1) cx lo .ret st = some (.ret, st) := id rfl
theorem sy_exit [E : Env] {i : Nat} : exec P (n + 1) cx lo (.exit i) st = some (.exit i, st) := id rfl
theorem sy_skip [E : Env] : exec P (n + 1) cx lo .skip st = some (.normal, st) := id rfl
theorem sy_cond [E : Env] {x : Operand} {a b : Code} : exec P (n + 1) cx lo (.cond x a b) st = cnd (evalO st.env x) (Ku P n cx lo a st) (Ku P n cx lo b st) := by
  rw [ex_cond]
  unfold cnd
  cases evalO st.env x with
  | none => rfl
  | some v => cases v <;> try rfl
              rename_i t; cases t <;> rfl
theorem sy_block [E : Env] {i : Nat} {a : Code} : exec P (n + 1) cx lo (.block i a) st = blk i (exec P n cx lo a st) := by rw [ex_block]; unfold blk; rfl
theorem sy_loop [E : Env] {a : Code} : exec P (n + 1) cx lo (.loop a) st = nxt (exec P n cx lo a st) (Kx P n cx lo (.loop a)) := by rw [ex_loop]; unfold nxt; rfl
theorem sy_region [E : Env] {i : Nat} {ops : Array Oper} : exec P (n + 1) cx lo (.region i ops false) st = reg st.marks (runOps P (exec P n) lo ops ops.toList st.env st.H) := by rw [ex_region]; unfold reg; rfl
theorem sy_draw [E : Env] {i : Nat} {ops : Array Oper} : exec P (n + 1) cx lo (.region i ops true) st = reg st.marks (runDraw P (exec P n) lo ops st.env st.H) := by rw [ex_draw]; unfold reg; rfl
theorem sy_nil [E : Env] {ops : Array Oper} {env : List AV} {H : Heap} : runOps P ex lo ops [] env H = some (env, H) := by simp only [runOps]
theorem sy_op [E : Env] {ops : Array Oper} {o : Oper} {rest : List Oper} {env : List AV} {H : Heap} : runOps P ex lo ops (o :: rest) env H =
    grd (Region.wanted o (yieldedA ops env)) (Ky P ex lo ops o rest env H) (Kn P ex lo ops rest env H o.dst) := by
  simp only [runOps]
  cases Region.wanted o (yieldedA ops env)
  · simp [grd, kn]
  · simp only [if_true, grd, ky, opr]; rfl
theorem draw_eq [E : Env] {ops : Array Oper} {bef : Array Nat} {m : Nat} {env : List AV} {H : Heap} (h1 : Region.before ops = bef) (h2 : (raceFree ops bef && edgesOk 0 ops.toList && befOk ops bef) = true) (h3 : quietLen bef ops.size = m) :
    runDraw P ex lo ops env H = (match runQuiet P ex ops bef 0 (ops.toList.take m) env H [] with
    | some (env, H) => runOps P ex lo ops (ops.toList.drop m) env H
    | none => none) := by
  unfold runDraw
  simp only [h1, h2, h3, if_true]; rfl
/-- quiet operations, and what comes behind them -/
def Kq [E : Env] (P : Program) (ex : ExF) (ops : Array Oper) (bef : Array Nat) (i : Nat) (rest : List Oper) (env : List AV) (d : Option Tmp) (kept : List (Nat × Nat × Nat)) (b : Nat) (H0 : Heap) (v : AV) (H : Heap) : Option (List AV × Heap) :=
  if v.all (visA b kept) && newOk (visA b kept) H0 H then runQuiet P ex ops bef (i + 1) rest (putE env d v) H (if H.next = H0.next then kept else (i, H0.next, H.next - H0.next) :: kept) else none
def Kw [E : Env] (P : Program) (ex : ExF) (ops : Array Oper) (bef : Array Nat) (i : Nat) (rest : List Oper) (env : List AV) (d : Option Tmp) (kept : List (Nat × Nat × Nat)) (b : Nat) (H0 : Heap) (rd : Bool) (v : AV) (H : Heap) : Option (List AV × Heap) :=
  if !v.all (visA b kept) then none else
  if rd || v.rf then runQuiet P ex ops bef (i + 1) rest (putE env d v) H0 kept
  else if !newOk (visA b kept) H0 H then none
  else runQuiet P ex ops bef (i + 1) rest (putE env d v) (growH H0 H) ((i, H0.next, H.next - H0.next) :: kept)
def Kf [E : Env] (P : Program) (ex : ExF) (ops : Array Oper) (bef : Array Nat) (i : Nat) (o : Oper) (rest : List Oper) (env : List AV) (kept : List (Nat × Nat × Nat)) (b : Nat) (H : Heap) (_ : Unit) : Option (List AV × Heap) :=
  opr (opA P ex H.next env H o) (Kq P ex ops bef i rest env o.dst kept b H)
def Kv [E : Env] (P : Program) (ex : ExF) (ops : Array Oper) (bef : Array Nat) (i : Nat) (o : Oper) (rest : List Oper) (env : List AV) (kept : List (Nat × Nat × Nat)) (b : Nat) (H : Heap) (_ : Unit) : Option (List AV × Heap) :=
  opr (opA P ex H.next env (viewA H b kept) o) (Kw P ex ops bef i rest env o.dst kept b H (onlyReads o.op))
def Ke [E : Env] (P : Program) (ex : ExF) (ops : Array Oper) (bef : Array Nat) (i : Nat) (o : Oper) (rest : List Oper) (env : List AV) (kept : List (Nat × Nat × Nat)) (b : Nat) (H : Heap) (_ : Unit) : Option (List AV × Heap) :=
  grd (heapFree o.op) (Kf P ex ops bef i o rest env kept b H) (Kv P ex ops bef i o rest env kept b H)
def Ks [E : Env] (P : Program) (ex : ExF) (ops : Array Oper) (bef : Array Nat) (i : Nat) (rest : List Oper) (env : List AV) (d : Option Tmp) (kept : List (Nat × Nat × Nat)) (H : Heap) (_ : Unit) : Option (List AV × Heap) :=
  runQuiet P ex ops bef (i + 1) rest (putE env d undefA) H kept
/-- what comes behind the quiet operations -/
def Kd [E : Env] (P : Program) (ex : ExF) (lo : Nat) (ops : Array Oper) (rest : List Oper) (env : List AV) (H : Heap) : Option (List AV × Heap) := runOps P ex lo ops rest env H
def drw (r : Option (List AV × Heap)) (k : List AV → Heap → Option (List AV × Heap)) : Option (List AV × Heap) := match r with | some (env, H) => k env H | none => none
theorem drw_some {env : List AV} {H : Heap} {k : List AV → Heap → Option (List AV × Heap)} : drw (some (env, H)) k = k env H := id rfl
theorem kd [E : Env] {ops : Array Oper} {rest : List Oper} {env : List AV} {H : Heap} : Kd P ex lo ops rest env H = runOps P ex lo ops rest env H := id rfl
section
variable {ops : Array Oper} {bef : Array Nat} {i b : Nat} {o : Oper} {rest : List Oper} {env : List AV} {H H0 : Heap} {kept : List (Nat × Nat × Nat)} {d : Option Tmp} {v : AV} {u : Unit} {rd : Bool}
theorem qy_nil [E : Env] : runQuiet P ex ops bef i [] env H kept = some (env, H) := by simp only [runQuiet]
theorem qy_op [E : Env] : runQuiet P ex ops bef i (o :: rest) env H kept = grd (Region.wanted o (yieldedA ops env)) (Ke P ex ops bef i o rest env kept (bef.getD i 0) H) (Ks P ex ops bef i rest env o.dst kept H) := by
  simp only [runQuiet]
  cases Region.wanted o (yieldedA ops env)
  · simp [grd, Ks]
  · simp only [if_true, grd, Ke]
    cases heapFree o.op
    · simp only [Kv, opr, Kw, Bool.false_eq_true, if_false]; rfl
    · simp only [Kf, opr, Kq, if_true]; rfl
theorem ke [E : Env] : Ke P ex ops bef i o rest env kept b H u = grd (heapFree o.op) (Kf P ex ops bef i o rest env kept b H) (Kv P ex ops bef i o rest env kept b H) := id rfl
theorem kf [E : Env] : Kf P ex ops bef i o rest env kept b H u = opr (opA P ex H.next env H o) (Kq P ex ops bef i rest env o.dst kept b H) := id rfl
theorem kv [E : Env] : Kv P ex ops bef i o rest env kept b H u = opr (opA P ex H.next env (viewA H b kept) o) (Kw P ex ops bef i rest env o.dst kept b H (onlyReads o.op)) := id rfl
theorem ks [E : Env] : Ks P ex ops bef i rest env d kept H u = runQuiet P ex ops bef (i + 1) rest (putE env d undefA) H kept := id rfl
theorem kq_same [E : Env] (hv : v.all (visA b kept) = true) : Kq P ex ops bef i rest env d kept b H v H = runQuiet P ex ops bef (i + 1) rest (putE env d v) H kept := by
  simp [Kq, hv, newOk]
theorem kw_same [E : Env] (hv : v.all (visA b kept) = true) (hr : (rd || v.rf) = true) : Kw P ex ops bef i rest env d kept b H0 rd v H = runQuiet P ex ops bef (i + 1) rest (putE env d v) H0 kept := by
  simp only [Kw, hv, hr, Bool.not_true, Bool.false_eq_true, if_false, if_true]
end
theorem viewA_nil {H : Heap} {b : Nat} : viewA H b [] = H := by simp only [viewA]
theorem dy [E : Env] {ops : Array Oper} {bef : Array Nat} {m : Nat} {env : List AV} {H : Heap} (h1 : Region.before ops = bef) (h2 : (raceFree ops bef && edgesOk 0 ops.toList && befOk ops bef) = true) (h3 : quietLen bef ops.size = m) :
    runDraw P ex lo ops env H = drw (runQuiet P ex ops bef 0 (ops.toList.take m) env H []) (Kd P ex lo ops (ops.toList.drop m)) := by
  rw [draw_eq h1 h2 h3]; unfold drw Kd; rfl
end
end Go.Ab
