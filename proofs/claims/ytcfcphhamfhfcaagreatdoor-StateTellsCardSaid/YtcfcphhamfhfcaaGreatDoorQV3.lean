/- What the law's proof leans on, part 3. Conditions: in each statement. -/
import Derived.Test.YtcfcphhamfhfcaaGreatDoorQV2
set_option linter.all false
namespace Go.Ab
open Go
variable [E : Env]
inductive Ex where
 | normal
 | exit (id : Nat)
 | ret
structure St where
 env : EV
 marks : List Nat
 H : Heap
structure Ctx where
 fn : FuncId
 rnd : Option Nat
abbrev ExF := Ctx → Nat → Code → St → Option (Ex × St)
def zbq (P : Program) (H : Heap) (env : EV) : List ResultVar → Option (List AV)
 | [] => some []
 | .tmp t :: rest => match env.look t, zbq P H env rest with | some v, some l => some (v :: l) | _, _ => none
 | .cell a t :: rest => match (env.look a).bind (zmc P H t), zbq P H env rest with | some v, some l => some (v :: l) | _, _ => none
def zy9 : List AV → AV
 | [v] => v
 | vs => .tup vs
def zbx (H : Heap) : List Nat → Option Heap
 | [] => some H
 | b :: bs => match H.get b with | some .dfr => zbx (H.kill b) bs | _ => none
def zjf (H : Heap) : List Nat → List Nat
 | [] => []
 | b :: l => zon (H.get b) ++ zjf H l
def zud (H : Heap) (pin : Nat) (r : List Nat) : Option (List Nat) := ze2 H 100000 (zjf H (List.range pin) ++ r) (List.range pin)
def zmn (pin : Nat) (st : St) : St :=
 match zud st.H pin (AV.refsL (vals st.env.s) ++ st.marks) with
 | some ord => ⟨st.env.ren (zii ord), st.marks.map (zii ord), st.H.part ord⟩
 | none => st
def yadl (pin : Nat) (v : AV) (H : Heap) : Option (AV × Heap) :=
 match zud H pin v.refs with
 | some ord => some (v.ren (zii ord), H.part ord)
 | none => none
def zxm (cx : Ctx) (key : Nat) (pin : Nat) (st : St) : St :=
 match E.live cx.fn key with
 | some ks => zmn pin ⟨st.env.lim ks, st.marks, st.H⟩
 | none => st
def limR (fn : FuncId) (id : Nat) (env : EV) : EV :=
 match E.live fn (3 * id) with
 | some ks => env.lim ks
 | none => env
def sig (ord : List Nat) (n : Nat) (j : Nat) : Nat := if j < ord.length then ord.getD j 0 else n + (j - ord.length)
def zfw (ρ : Nat → Nat) (K : Heap) : Nat → List Nat → Heap → Heap
 | _, [], H => H
 | j, b :: l, H => zfw ρ K (j + 1) l (H.setO b ((K.get j).map (Blk.ren ρ)))
def zik (ρ : Nat → Nat) : List (Option Blk) → Heap → Heap
 | [], H => H
 | x :: l, H => zik ρ l ⟨H.next + 1, zo6 H.l H.next (x.map (Blk.ren ρ))⟩
def zlc (ord : List Nat) (H K : Heap) : Heap := zik (sig ord H.next) ((K.l.drop ord.length).take (K.next - ord.length)) (zfw (sig ord H.next) K 0 ord H)
mutual
def AV.nro : AV → Bool
 | .rptr .. | .rsl (some _) _ _ _ => false
 | .func _ first cap => AV.nroL first && AV.nroL cap
 | .iface _ v => v.nro
 | .agg cs => AV.nroL cs
 | .tup vs => AV.nroL vs
 | _ => true
def AV.nroL : List AV → Bool
 | [] => true
 | v :: vs => v.nro && AV.nroL vs
end
def Blk.nro : Blk → Bool
 | .cells _ c => AV.nroL c
 | .map es _ => es.all fun e => e.1.nro && e.2.1.nro
 | _ => false
def Heap.nro (H : Heap) : Bool := H.l.all fun x => match x with | some x => x.nro | none => true
def zlq (sz : Nat) : Nat → List AV → List AV
 | 0, _ => []
 | n + 1, c => .agg (c.take sz) :: zlq sz n (c.drop sz)
mutual
def zl6 (P : Program) (κ : Nat → Nat × Nat) (H : Heap) : Nat → AV → Option AV
 | 0, _ => none
 | f + 1, .sl b i n sz => match H.get b with
  | some (.cells t c) => match zd8 P t, zbl P t, zkc P κ H f ((c.drop (i * sz)).take (n * sz)) with
   | some g, some s, some l => if s = sz && decide (0 < sz) && decide ((i + n) * sz ≤ c.length) && (g || sz == 1 && zby l) then some (.rsl (some ⟨(κ b).1, i * sz, none⟩) ((κ b).2 - i) sz (if g then zlq sz n l else l)) else none
   | _, _, _ => none
  | _ => none
 | f + 1, .ptr b o => match H.get b with
  | some (.cells _ c) => (zkc P κ H f (c.drop o)).map (.rptr ⟨(κ b).1, o, none⟩)
  | _ => none
 | _ + 1, .map (some _) => none
 | _ + 1, .yieldf _ => none
 | f + 1, .func g a b => match zkc P κ H f a, zkc P κ H f b with | some a, some b => some (.func g a b) | _, _ => none
 | f + 1, .iface t v => (zl6 P κ H f v).map (.iface t)
 | f + 1, .agg l => (zkc P κ H f l).map .agg
 | f + 1, .tup l => (zkc P κ H f l).map .tup
 | _ + 1, v => some v
def zkc (P : Program) (κ : Nat → Nat × Nat) (H : Heap) : Nat → List AV → Option (List AV)
 | 0, _ => none
 | _ + 1, [] => some []
 | f + 1, v :: l => if AV.rfL (v :: l) then some (v :: l) else match zl6 P κ H f v, zkc P κ H f l with | some v, some l => some (v :: l) | _, _ => none
end
def runF (P : Program) (ex : ExF) (f : FuncId) (fn : Func) (c : Code) (args : List AV) (K : Heap) : Option (AV × Heap) :=
 match ex ⟨f, none⟩ K.next c ⟨⟨Nat.max fn.ntmps args.length, zu2 0 args⟩, [], K⟩ with
 | some (.normal, st) | some (.ret, st) => match zbx st.H st.marks with
  | some H' => match zbq P H' st.env fn.results.toList with
   | some vs => yadl K.next (zy9 vs) H'
   | none => none
  | none => none
 | _ => none
def zaq (P : Program) (ex : ExF) (f : FuncId) (args : List AV) (K : Heap) : Option (AV × Heap) :=
 match P.funcs[f]? with
 | none => none
 | some fn => match fn.body with
  | none => none
  | some c => runF P ex f fn c args K
noncomputable def allK {α : Type} (g : (Nat → Nat × Nat) → Option α) : Option α :=
 @dite _ (∃ r, ∀ κ, g κ = some r) (Classical.propDecidable _) (fun h => some h.choose) (fun _ => none)
def roG (H : Heap) : Option (AV × Heap) → Option (AV × Heap)
 | some (v, K) => if v.nro && K.nro then some (v.ren (sig [] H.next), zlc [] H K) else none
 | none => none
noncomputable def rwG (lo : Nat) (ord : List Nat) (H : Heap) : Option (AV × Heap) → Option (AV × Heap)
 | some (v, K) => if @decide (∀ b ∈ ord, b < lo → (zlc ord H K).get b = H.get b) (Classical.propDecidable _) then some (v.ren (sig ord H.next), zlc ord H K) else none
 | none => none
noncomputable def zlo (P : Program) (ex : ExF) (lo : Nat) (f : FuncId) (args : List AV) (H : Heap) : Option (AV × Heap) :=
 bif E.inl f && !AV.rfL args then roG H (allK fun κ => (zkc P κ H 1000 args).bind fun as => zaq P ex f as Heap.empty)
 else match ze2 H 100000 (AV.refsL args) [] with
  | none => none
  | some ord => rwG lo ord H (zaq P ex f (AV.renL (zii ord) args) (H.part ord))
def zch (env : EV) : List Tmp → List AV → Option EV
 | [], [] => some env
 | t :: ts, v :: vs => zch (env.set t v) ts vs
 | _, _ => none
def zde (H : Heap) (l : Nat) (jump : Option Code) : Option (AV × Heap) :=
 match H.get l with
 | some (.loop .busy _ fn tmps params assign body d) => some (.bool jump.isNone, H.set l (.loop (if jump.isNone then .ready else .done) jump fn tmps params assign body d))
 | _ => none
def zob (ex : ExF) (lo l : Nat) (args : List AV) (H : Heap) : Option (AV × Heap) :=
 match H.get l with
 | some (.loop _ _ fn tmps params assign body _) =>
  if lo ≤ l then
   match zch tmps params args with
   | none => none
   | some env => match ex ⟨fn, some l⟩ H.next assign ⟨env, [], H⟩ with
    | some (.normal, ⟨env, [], H⟩) => match H.get l with
     | some (.loop .ready pend fn1 tmps1 params1 assign1 body1 d1) =>
      match ex ⟨fn, some l⟩ H.next body ⟨env, [], H.set l (.loop .busy pend fn1 tmps1 params1 assign1 body1 d1)⟩ with
      | some (.normal, ⟨_, [], H⟩) => zde H l none
      | some (.ret, ⟨_, [], H⟩) => zde H l (some .ret)
      | some (.exit id, ⟨_, [], H⟩) => zde H l (some (.exit id))
      | _ => none
     | _ => none
    | _ => none
  else none
 | _ => none
noncomputable def znc (P : Program) (ex : ExF) (lo : Nat) (f : AV) (args : List AV) (H : Heap) : Option (AV × Heap) :=
 match f with
 | .func f first cap => zlo P ex lo f (first ++ args ++ cap) H
 | .yieldf l => zob ex lo l args H
 | _ => none
noncomputable def opA (P : Program) (ex : ExF) (lo : Nat) (env : EV) (H : Heap) (o : Oper) : Option (AV × Heap) :=
 match o.op with
 | .call { callee := .value f, args, .. } => (za7 env f).bind fun f => (zlv env args.toList).bind fun vs => znc P ex lo f vs H
 | _ => aop P lo env H o
def znu (ops : Array Oper) (env : EV) (o : Oper) : Option Bool :=
 match o.guard with
 | none => some true
 | some (j, b) => match ((ops[j]?).bind (·.dst)).bind env.look with
  | some (.bool x) => some (x == b)
  | some _ => some false
  | none => none
noncomputable def zgj (P : Program) (ex : ExF) (ops : Array Oper) : List Oper → EV → Heap → Option (EV × Heap)
 | [], env, H => some (env, H)
 | o :: rest, env, H =>
  match znu ops env o with
  | some true => match opA P ex 0 env H o with
   | some (v, H') => zgj P ex ops rest (zdu env o.dst v) H'
   | none => none
  | some false => zgj P ex ops rest (zdu env o.dst undefA) H
  | none => none
def needs (ops : Array Oper) (o : Oper) : List Tmp :=
 (o.op.operands.toList.filterMap fun | .tmp t => some t | _ => none) ++ (match o.guard with | some (j, _) => (((ops[j]?).bind (·.dst)).toList) | none => [])
def zgi (ops : Array Oper) (bef : Array Nat) : Bool :=
 (List.range ops.size).all fun i => (List.range ops.size).all fun j =>
  i == j || (bef.getD i 0).testBit j || (bef.getD j 0).testBit i ||
  match ops[i]?, ops[j]? with
  | some x, some y => (match x.dst with | some d => !(needs ops y).contains d && y.dst != some d | none => true)
  | _, _ => true
def ze6 (bef : Nat) : Nat → Bool
 | 0 => true
 | i + 1 => bef.testBit i && ze6 bef i
def zgc : Op → Bool
 | .move _ | .assign _ | .pick .. | .build .. | .nilCheck _ | .binOp .. | .unOp .. | .makeInterface .. | .makeFunc .. | .fieldAddr .. | .field .. | .indexAddr .. | .index .. | .extract ..
 | .alloc _ | .box .. | .buildSlice .. | .makeMap .. | .makeSlice .. => true
 | _ => false
def zee (bef : Array Nat) : Nat → Nat
 | 0 => 0
 | i + 1 => if ze6 (bef.getD i 0) i then zee bef i else i + 1
def zk6 : Nat → List Oper → Bool
 | _, [] => true
 | i, o :: rest => (o.after.all fun e => !Region.binds .any e || decide (e.on < i)) && zk6 (i + 1) rest
def yacc (ops : Array Oper) (bef : Array Nat) : Bool :=
 decide (bef.size = ops.size) && (List.range ops.size).all fun i => match ops[i]? with
  | some o => bef.getD i 0 == o.after.toList.foldl (fun s e => if Region.binds .any e then s ||| 2 ^ e.on ||| bef.getD e.on 0 else s) 0
  | none => true
def zza (bef : Array Nat) (i j : Nat) : Bool := i != j && !(bef.getD i 0).testBit j && !(bef.getD j 0).testBit i
def zrr (W : Nat → List Nat) (bef : Array Nat) (m j n : Nat) (kept : List (Nat × Nat × Nat)) : List Nat :=
 (((List.range m).flatMap fun i => if zza bef i j then W i else []) ++ (kept.flatMap fun q => if (bef.getD j 0).testBit q.1 then [] else List.range' q.2.1 q.2.2)).filter fun b => decide (b < n)
def zct (H : Heap) : List Nat → Heap
 | [] => H
 | b :: l => zct (H.kill b) l
def zxn (H K : Heap) : List Nat → Heap
 | [] => H
 | b :: l => zxn (H.setO b (K.get b)) K l
structure LOk (hl W : List Nat) (H V : Heap) (v : AV) : Prop where
 next : H.next ≤ V.next
 lt : (∀ b x, H.get b = some x → b < H.next) → ∀ b x, V.get b = some x → b < V.next
 val : v.all (fun b => !hl.contains b) = true
 own : ∀ b ∈ W, b < H.next ∧ hl.contains b = false
 same : ∀ b, b < H.next → b ∉ W → hl.contains b = false → V.get b = H.get b
 new : ∀ b x, (b ∈ W ∨ (H.next ≤ b ∧ b < V.next)) → V.get b = some x → x.all (fun b => !hl.contains b) = true
def zf1 (h : List (Nat × Nat)) (env : EV) (H : Heap) (j : Nat) : List Nat :=
 match h with
 | [] => []
 | (i, t) :: h => (if i = j then (ze2 H 100000 (match env.look t with | some v => v.refs | none => []) []).getD [] else []) ++ zf1 h env H j
noncomputable def runL (P : Program) (ex : ExF) (ops : Array Oper) (bef : Array Nat) (m : Nat) (W : Nat → List Nat) : Nat → List Oper → EV → Heap → List (Nat × Nat × Nat) → Option (EV × Heap)
 | _, [], env, H, _ => some (env, H)
 | i, o :: rest, env, H, kept =>
  match znu ops env o with
  | some true =>
   if zgc o.op then
    match opA P ex 0 env H o with
    | some (v, V) =>
     if @decide (LOk (zrr W bef m i H.next kept) (W i) H V v) (Classical.propDecidable _) then
      runL P ex ops bef m W (i + 1) rest (zdu env o.dst v) V (if V.next = H.next then kept else (i, H.next, V.next - H.next) :: kept)
     else none
    | none => none
   else
    match opA P ex 0 env (zct H (zrr W bef m i H.next kept)) o with
    | some (v, V) =>
     if @decide (LOk (zrr W bef m i H.next kept) (W i) H V v) (Classical.propDecidable _) then
      runL P ex ops bef m W (i + 1) rest (zdu env o.dst v) (zxn V H (zrr W bef m i H.next kept))
       (if V.next = H.next then kept else (i, H.next, V.next - H.next) :: kept)
     else none
    | none => none
  | some false => runL P ex ops bef m W (i + 1) rest (zdu env o.dst undefA) H kept
  | none => none
noncomputable def zq1 (P : Program) (ex : ExF) (ops : Array Oper) (W : Nat → List Nat) (env : EV) (H : Heap) : Option (EV × Heap) :=
 let bef := Region.before ops
 if zgi ops bef && zk6 0 ops.toList && yacc ops bef then
  let m := zee bef ops.size
  match runL P ex ops bef m W 0 (ops.toList.take m) env H [] with
  | some (env, H) => zgj P ex ops (ops.toList.drop m) env H
  | none => none
 else none
noncomputable def runD (P : Program) (ex : ExF) (fn : FuncId) (id : Nat) (ops : Array Oper) (env : EV) (H : Heap) : Option (EV × Heap) :=
 zq1 P ex ops (zf1 (E.hint fn id) env H) env H
def zft (rnd : Option Nat) (marks : List Nat) (H : Heap) : Option (Nat × List Nat × Heap) :=
 match rnd with
 | none => some (H.next, H.next :: marks, H.push .dfr)
 | some l => match H.get l with | some (.loop _ _ _ _ _ _ _ d) => some (d, marks, H) | _ => none
def condKey : Operand → Nat
 | .tmp t => 3 * t + 1
 | _ => 1
noncomputable def zc9 (P : Program) (ex : ExF) (cx : Ctx) (pin : Nat) (c : Code) (st : St) : Option (Ex × St) :=
 match c with
 | .skip => some (.normal, st)
 | .ret => some (.ret, zxm cx 3000002 pin st)
 | .exit id => some (.exit id, st)
 | .region id ops draw =>
  match (if draw then runD P ex cx.fn id ops st.env st.H else zgj P ex ops ops.toList st.env st.H) with
  | some (env, H) => some (.normal, zxm cx (3 * (id + 1000000)) pin ⟨limR cx.fn id env, st.marks, H⟩)
  | none => none
 | .seq a b => match ex cx pin a st with
  | some (.normal, st) => ex cx pin b st
  | r => r
 | .cond x a b => match za7 st.env x with
  | some (.bool t) => match ex cx pin (if t then a else b) st with
   | some (.normal, st) => some (.normal, zxm cx (condKey x) pin st)
   | r => r
  | _ => none
 | .block id a => match ex cx pin a st with
  | some (.normal, st) => some (.normal, zxm cx (3 * id + 2) pin st)
  | some (.exit id', st) => if id' = id then some (.normal, zxm cx (3 * id + 2) pin st) else some (.exit id', st)
  | r => r
 | .loop a => match ex cx pin a st with
  | some (.normal, st) => ex cx pin (.loop a) (zmn pin st)
  | r => r
 | .rangeFunc f params assign body =>
  match za7 st.env f with
  | none => none
  | some fv =>
   match zft cx.rnd st.marks st.H with
   | none => none
   | some (d, marks, H) =>
    match (match fv with
     | .func g first cap => zlo P ex 0 g (first ++ [AV.yieldf H.next] ++ cap) (H.push (.loop .ready none cx.fn st.env params.toList assign body d))
     | _ => none : Option (AV × Heap)) with
    | some (_, H') => match H'.get H.next with
     | some (.loop st' pend _ _ _ _ _ _) =>
      if st' = .busy then none else
      match pend with
      | none => some (.normal, ⟨st.env, marks, H'.kill H.next⟩)
      | some .ret => some (.ret, ⟨st.env, marks, H'.kill H.next⟩)
      | some (.exit id) => some (.exit id, ⟨st.env, marks, H'.kill H.next⟩)
      | _ => none
     | _ => none
    | none => none
 | _ => none
def OM (P : Program) (cx : Ctx) (pin : Nat) (c : Code) (st : St) (r : Ex × St) : Prop :=
 ∀ R : Ctx → Nat → Code → St → Ex × St → Prop, (∀ (ex : ExF), (∀ cx pin c st r, ex cx pin c st = some r → R cx pin c st r) → ∀ cx pin c st r, zc9 P ex cx pin c st = some r → R cx pin c st r) → R cx pin c st r
noncomputable def om (P : Program) : ExF := fun cx pin c st =>
 @dite _ (∃ r, OM P cx pin c st r) (Classical.propDecidable _) (fun h => some h.choose) (fun _ => none)
end Go.Ab
