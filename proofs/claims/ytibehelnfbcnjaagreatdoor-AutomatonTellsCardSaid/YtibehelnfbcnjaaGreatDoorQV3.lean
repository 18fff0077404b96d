/- What the law's proof leans on, part 3. Conditions: in each statement. -/
import Derived.Test.YtibehelnfbcnjaaGreatDoorQV2
set_option linter.all false
namespace Go.Ab
open Go
variable [E : Env]
inductive Ex where
 | normal
 | exit (id : Nat)
 | ret
structure St where
 env : EV
 marks : List Nat
 H : Heap
structure Ctx where
 fn : FuncId
 rnd : Option Nat
abbrev ExF := Ctx → Nat → Code → St → Option (Ex × St)
def za6 (P : Program) (H : Heap) (env : EV) : List ResultVar → Option (List AV)
 | [] => some []
 | .tmp t :: rest => match env.look t, za6 P H env rest with | some v, some l => some (v :: l) | _, _ => none
 | .cell a t :: rest => match (env.look a).bind (zv5 P H t), za6 P H env rest with | some v, some l => some (v :: l) | _, _ => none
def zww : List AV → AV
 | [v] => v
 | vs => .tup vs
def zbg (H : Heap) : List Nat → Option Heap
 | [] => some H
 | b :: bs => match H.get b with | some .dfr => zbg (H.kill b) bs | _ => none
def zhj (H : Heap) : List Nat → List Nat
 | [] => []
 | b :: l => zma (H.get b) ++ zhj H l
def zrk (H : Heap) (pin : Nat) (r : List Nat) : Option (List Nat) := zdu H 100000 (zhj H (List.range pin) ++ r) (List.range pin)
def zka (pin : Nat) (st : St) : St :=
 match zrk st.H pin (AV.refsL (vals st.env.s) ++ st.marks) with
 | some ord => ⟨st.env.ren (zgo ord), st.marks.map (zgo ord), st.H.part ord⟩
 | none => st
def yaag (pin : Nat) (v : AV) (H : Heap) : Option (AV × Heap) :=
 match zrk H pin v.refs with
 | some ord => some (v.ren (zgo ord), H.part ord)
 | none => none
def zuz (cx : Ctx) (key : Nat) (pin : Nat) (st : St) : St :=
 match E.live cx.fn key with
 | some ks => zka pin ⟨st.env.lim ks, st.marks, st.H⟩
 | none => st
def limR (fn : FuncId) (id : Nat) (env : EV) : EV :=
 match E.live fn (3 * id) with
 | some ks => env.lim ks
 | none => env
def sig (ord : List Nat) (n : Nat) (j : Nat) : Nat := if j < ord.length then ord.getD j 0 else n + (j - ord.length)
def zen (ρ : Nat → Nat) (K : Heap) : Nat → List Nat → Heap → Heap
 | _, [], H => H
 | j, b :: l, H => zen ρ K (j + 1) l (H.setO b ((K.get j).map (Blk.ren ρ)))
def zgr (ρ : Nat → Nat) : List (Option Blk) → Heap → Heap
 | [], H => H
 | x :: l, H => zgr ρ l ⟨H.next + 1, zmq H.l H.next (x.map (Blk.ren ρ))⟩
def zi5 (ord : List Nat) (H K : Heap) : Heap := zgr (sig ord H.next) ((K.l.drop ord.length).take (K.next - ord.length)) (zen (sig ord H.next) K 0 ord H)
mutual
def AV.nro : AV → Bool
 | .rptr .. | .rsl (some _) _ _ _ => false
 | .func _ first cap => AV.nroL first && AV.nroL cap
 | .iface _ v => v.nro
 | .agg cs => AV.nroL cs
 | .tup vs => AV.nroL vs
 | _ => true
def AV.nroL : List AV → Bool
 | [] => true
 | v :: vs => v.nro && AV.nroL vs
end
def Blk.nro : Blk → Bool
 | .cells _ c => AV.nroL c
 | .map es _ => es.all fun e => e.1.nro && e.2.1.nro
 | _ => false
def Heap.nro (H : Heap) : Bool := H.l.all fun x => match x with | some x => x.nro | none => true
def zot (sz : Nat) : Nat → List AV → List AV
 | 0, _ => []
 | n + 1, c => .agg (c.take sz) :: zot sz n (c.drop sz)
mutual
def zln (P : Program) (κ : Nat → Nat × Nat) (H : Heap) : Nat → AV → Option AV
 | 0, _ => none
 | f + 1, .sl b i n sz => match H.get b with
  | some (.cells t c) => match ze1 P t, za0 P t, zjx P κ H f ((c.drop (i * sz)).take (n * sz)) with
   | some g, some s, some l => if s = sz && decide (0 < sz) && decide ((i + n) * sz ≤ c.length) && (g || sz == 1 && zbo l) then some (.rsl (some ⟨(κ b).1, i * sz, none⟩) ((κ b).2 - i) sz (if g then zot sz n l else l)) else none
   | _, _, _ => none
  | _ => none
 | _ + 1, .asl .. => none
 | f + 1, .ptr b o => match H.get b with
  | some (.cells _ c) => (zjx P κ H f (c.drop o)).map (.rptr ⟨(κ b).1, o, none⟩)
  | _ => none
 | _ + 1, .map (some _) => none
 | _ + 1, .yieldf _ => none
 | f + 1, .func g a b => match zjx P κ H f a, zjx P κ H f b with | some a, some b => some (.func g a b) | _, _ => none
 | f + 1, .iface t v => (zln P κ H f v).map (.iface t)
 | f + 1, .agg l => (zjx P κ H f l).map .agg
 | f + 1, .tup l => (zjx P κ H f l).map .tup
 | _ + 1, v => some v
def zjx (P : Program) (κ : Nat → Nat × Nat) (H : Heap) : Nat → List AV → Option (List AV)
 | 0, _ => none
 | _ + 1, [] => some []
 | f + 1, v :: l => if AV.rfL (v :: l) then some (v :: l) else match zln P κ H f v, zjx P κ H f l with | some v, some l => some (v :: l) | _, _ => none
end
def runF (P : Program) (ex : ExF) (f : FuncId) (fn : Func) (c : Code) (args : List AV) (K : Heap) : Option (AV × Heap) :=
 match ex ⟨f, none⟩ K.next c ⟨⟨Nat.max fn.ntmps args.length, zr7 0 args⟩, [], K⟩ with
 | some (.normal, st) | some (.ret, st) => match zbg st.H st.marks with
  | some H' => match za6 P H' st.env fn.results.toList with
   | some vs => yaag K.next (zww vs) H'
   | none => none
  | none => none
 | _ => none
def zas (P : Program) (ex : ExF) (f : FuncId) (args : List AV) (K : Heap) : Option (AV × Heap) :=
 match P.funcs[f]? with
 | none => none
 | some fn => match fn.body with
  | none => none
  | some c => runF P ex f fn c args K
noncomputable def zzh {α : Type} (g : (Nat → Nat × Nat) → Option α) : Option α :=
 @dite _ (∃ r, ∀ κ, g κ = some r) (Classical.propDecidable _) (fun h => some h.choose) (fun _ => none)
def roG (H : Heap) : Option (AV × Heap) → Option (AV × Heap)
 | some (v, K) => if v.nro && K.nro then some (v.ren (sig [] H.next), zi5 [] H K) else none
 | none => none
noncomputable def rwG (lo : Nat) (ord : List Nat) (H : Heap) : Option (AV × Heap) → Option (AV × Heap)
 | some (v, K) => if @decide (∀ b ∈ ord, b < lo → (zi5 ord H K).get b = H.get b) (Classical.propDecidable _) then some (v.ren (sig ord H.next), zi5 ord H K) else none
 | none => none
noncomputable def zji (P : Program) (ex : ExF) (lo : Nat) (f : FuncId) (args : List AV) (H : Heap) : Option (AV × Heap) :=
 bif E.inl f && !AV.rfL args then roG H (zzh fun κ => (zjx P κ H 1000 args).bind fun as => zas P ex f as Heap.empty)
 else match zdu H 100000 (AV.refsL args) [] with
  | none => none
  | some ord => rwG lo ord H (zas P ex f (AV.renL (zgo ord) args) (H.part ord))
def zbk (env : EV) : List Tmp → List AV → Option EV
 | [], [] => some env
 | t :: ts, v :: vs => zbk (env.set t v) ts vs
 | _, _ => none
def zci (H : Heap) (l : Nat) (jump : Option Code) : Option (AV × Heap) :=
 match H.get l with
 | some (.loop .busy _ fn tmps params assign body d) => some (.bool jump.isNone, H.set l (.loop (if jump.isNone then .ready else .done) jump fn tmps params assign body d))
 | _ => none
def zlv (ex : ExF) (lo l : Nat) (args : List AV) (H : Heap) : Option (AV × Heap) :=
 match H.get l with
 | some (.loop _ _ fn tmps params assign body _) =>
  if lo ≤ l then
   match zbk tmps params args with
   | none => none
   | some env => match ex ⟨fn, some l⟩ H.next assign ⟨env, [], H⟩ with
    | some (.normal, ⟨env, [], H⟩) => match H.get l with
     | some (.loop .ready pend fn1 tmps1 params1 assign1 body1 d1) =>
      match ex ⟨fn, some l⟩ H.next body ⟨env, [], H.set l (.loop .busy pend fn1 tmps1 params1 assign1 body1 d1)⟩ with
      | some (.normal, ⟨_, [], H⟩) => zci H l none
      | some (.ret, ⟨_, [], H⟩) => zci H l (some .ret)
      | some (.exit id, ⟨_, [], H⟩) => zci H l (some (.exit id))
      | _ => none
     | _ => none
    | _ => none
  else none
 | _ => none
noncomputable def zky (P : Program) (ex : ExF) (lo : Nat) (f : AV) (args : List AV) (H : Heap) : Option (AV × Heap) :=
 match f with
 | .func f first cap => zji P ex lo f (first ++ args ++ cap) H
 | .yieldf l => zlv ex lo l args H
 | _ => none
noncomputable def opA (P : Program) (ex : ExF) (lo : Nat) (env : EV) (H : Heap) (o : Oper) : Option (AV × Heap) :=
 match o.op with
 | .call { callee := .value f, args, .. } => (zau env f).bind fun f => (zjo env args.toList).bind fun vs => zky P ex lo f vs H
 | _ => aop P lo env H o
def zle (ops : Array Oper) (env : EV) (o : Oper) : Option Bool :=
 match o.guard with
 | none => some true
 | some (j, b) => match ((ops[j]?).bind (·.dst)).bind env.look with
  | some (.bool x) => some (x == b)
  | some _ => some false
  | none => none
noncomputable def ze6 (P : Program) (ex : ExF) (ops : Array Oper) : List Oper → EV → Heap → Option (EV × Heap)
 | [], env, H => some (env, H)
 | o :: rest, env, H =>
  match zle ops env o with
  | some true => match opA P ex 0 env H o with
   | some (v, H') => ze6 P ex ops rest (zcw env o.dst v) H'
   | none => none
  | some false => ze6 P ex ops rest (zcw env o.dst undefA) H
  | none => none
def needs (ops : Array Oper) (o : Oper) : List Tmp :=
 (o.op.operands.toList.filterMap fun | .tmp t => some t | _ => none) ++ (match o.guard with | some (j, _) => (((ops[j]?).bind (·.dst)).toList) | none => [])
def ze5 (ops : Array Oper) (bef : Array Nat) : Bool :=
 (List.range ops.size).all fun i => (List.range ops.size).all fun j =>
  i == j || (bef.getD i 0).testBit j || (bef.getD j 0).testBit i ||
  match ops[i]?, ops[j]? with
  | some x, some y => (match x.dst with | some d => !(needs ops y).contains d && y.dst != some d | none => true)
  | _, _ => true
def zdz (bef : Nat) : Nat → Bool
 | 0 => true
 | i + 1 => bef.testBit i && zdz bef i
def zd2 : Op → Bool
 | .move _ | .assign _ | .pick .. | .build .. | .nilCheck _ | .binOp .. | .unOp .. | .makeInterface .. | .makeFunc .. | .fieldAddr .. | .field .. | .indexAddr .. | .index .. | .extract ..
 | .alloc _ | .box .. | .buildSlice .. | .makeMap .. | .makeSlice .. => true
 | _ => false
def zc9 (bef : Array Nat) : Nat → Nat
 | 0 => 0
 | i + 1 => if zdz (bef.getD i 0) i then zc9 bef i else i + 1
def zi1 : Nat → List Oper → Bool
 | _, [] => true
 | i, o :: rest => (o.after.all fun e => !Region.binds .any e || decide (e.on < i)) && zi1 (i + 1) rest
def zzi (ops : Array Oper) (bef : Array Nat) : Bool :=
 decide (bef.size = ops.size) && (List.range ops.size).all fun i => match ops[i]? with
  | some o => bef.getD i 0 == o.after.toList.foldl (fun s e => if Region.binds .any e then s ||| 2 ^ e.on ||| bef.getD e.on 0 else s) 0
  | none => true
def zuo (bef : Array Nat) (i j : Nat) : Bool := i != j && !(bef.getD i 0).testBit j && !(bef.getD j 0).testBit i
def zjd (W : Nat → List Nat) (bef : Array Nat) (m j n : Nat) (kept : List (Nat × Nat × Nat)) : List Nat :=
 (((List.range m).flatMap fun i => if zuo bef i j then W i else []) ++ (kept.flatMap fun q => if (bef.getD j 0).testBit q.1 then [] else List.range' q.2.1 q.2.2)).filter fun b => decide (b < n)
def zbw (H : Heap) : List Nat → Heap
 | [] => H
 | b :: l => zbw (H.kill b) l
def zu0 (H K : Heap) : List Nat → Heap
 | [] => H
 | b :: l => zu0 (H.setO b (K.get b)) K l
structure LOk (hl ml W : List Nat) (H V : Heap) (v : AV) : Prop where
 next : H.next ≤ V.next
 lt : (∀ b x, H.get b = some x → b < H.next) → ∀ b x, V.get b = some x → b < V.next
 val : v.all (fun b => !ml.contains b) = true
 own : ∀ b ∈ W, b < H.next ∧ hl.contains b = false
 same : ∀ b, b < H.next → b ∉ W → hl.contains b = false → V.get b = H.get b
 new : ∀ b x, (b ∈ W ∨ (H.next ≤ b ∧ b < V.next)) → V.get b = some x → x.all (fun b => !ml.contains b) = true
def zds (h : List (Nat × Nat)) (env : EV) (H : Heap) (j : Nat) : List Nat :=
 match h with
 | [] => []
 | (i, t) :: h => (if i = j then (zdu H 100000 (match env.look t with | some v => v.refs | none => []) []).getD [] else []) ++ zds h env H j
noncomputable def zy3 (P : Program) (ex : ExF) (ops : Array Oper) (bef : Array Nat) (m : Nat) (W : Nat → List Nat) : Nat → List Oper → EV → Heap → List (Nat × Nat × Nat) → Option (EV × Heap)
 | _, [], env, H, _ => some (env, H)
 | i, o :: rest, env, H, kept =>
  match zle ops env o with
  | some true =>
   if zd2 o.op then
    match opA P ex 0 env H o with
    | some (v, V) =>
     if @decide (LOk (zjd W bef m i H.next kept) (zjd (fun _ => []) bef m i H.next kept) (W i) H V v) (Classical.propDecidable _) then
      zy3 P ex ops bef m W (i + 1) rest (zcw env o.dst v) V (if V.next = H.next then kept else (i, H.next, V.next - H.next) :: kept)
     else none
    | none => none
   else
    match opA P ex 0 env (zbw H (zjd W bef m i H.next kept)) o with
    | some (v, V) =>
     if @decide (LOk (zjd W bef m i H.next kept) (zjd (fun _ => []) bef m i H.next kept) (W i) H V v) (Classical.propDecidable _) then
      zy3 P ex ops bef m W (i + 1) rest (zcw env o.dst v) (zu0 V H (zjd W bef m i H.next kept))
       (if V.next = H.next then kept else (i, H.next, V.next - H.next) :: kept)
     else none
    | none => none
  | some false => zy3 P ex ops bef m W (i + 1) rest (zcw env o.dst undefA) H kept
  | none => none
noncomputable def zob (P : Program) (ex : ExF) (ops : Array Oper) (W : Nat → List Nat) (env : EV) (H : Heap) : Option (EV × Heap) :=
 let bef := Region.before ops
 if ze5 ops bef && zi1 0 ops.toList && zzi ops bef then
  let m := zc9 bef ops.size
  match zy3 P ex ops bef m W 0 (ops.toList.take m) env H [] with
  | some (env, H) => ze6 P ex ops (ops.toList.drop m) env H
  | none => none
 else none
noncomputable def runD (P : Program) (ex : ExF) (fn : FuncId) (id : Nat) (ops : Array Oper) (env : EV) (H : Heap) : Option (EV × Heap) :=
 zob P ex ops (zds (E.hint fn id) env H) env H
def zel (rnd : Option Nat) (marks : List Nat) (H : Heap) : Option (Nat × List Nat × Heap) :=
 match rnd with
 | none => some (H.next, H.next :: marks, H.push .dfr)
 | some l => match H.get l with | some (.loop _ _ _ _ _ _ _ d) => some (d, marks, H) | _ => none
def condKey : Operand → Nat
 | .tmp t => 3 * t + 1
 | _ => 1
noncomputable def zcb (P : Program) (ex : ExF) (cx : Ctx) (pin : Nat) (c : Code) (st : St) : Option (Ex × St) :=
 match c with
 | .skip => some (.normal, st)
 | .ret => some (.ret, zuz cx 3000002 pin st)
 | .exit id => some (.exit id, st)
 | .region id ops draw =>
  match (if draw then runD P ex cx.fn id ops st.env st.H else ze6 P ex ops ops.toList st.env st.H) with
  | some (env, H) => some (.normal, zuz cx (3 * (id + 1000000)) pin ⟨limR cx.fn id env, st.marks, H⟩)
  | none => none
 | .seq a b => match ex cx pin a st with
  | some (.normal, st) => ex cx pin b st
  | r => r
 | .cond x a b => match zau st.env x with
  | some (.bool t) => match ex cx pin (if t then a else b) st with
   | some (.normal, st) => some (.normal, zuz cx (condKey x) pin st)
   | r => r
  | _ => none
 | .block id a => match ex cx pin a st with
  | some (.normal, st) => some (.normal, zuz cx (3 * id + 2) pin st)
  | some (.exit id', st) => if id' = id then some (.normal, zuz cx (3 * id + 2) pin st) else some (.exit id', st)
  | r => r
 | .loop a => match ex cx pin a st with
  | some (.normal, st) => ex cx pin (.loop a) (zka pin st)
  | r => r
 | .rangeFunc f params assign body =>
  match zau st.env f with
  | none => none
  | some fv =>
   match zel cx.rnd st.marks st.H with
   | none => none
   | some (d, marks, H) =>
    match (match fv with
     | .func g first cap => zji P ex 0 g (first ++ [AV.yieldf H.next] ++ cap) (H.push (.loop .ready none cx.fn st.env params.toList assign body d))
     | _ => none : Option (AV × Heap)) with
    | some (_, H') => match H'.get H.next with
     | some (.loop st' pend _ _ _ _ _ _) =>
      if st' = .busy then none else
      match pend with
      | none => some (.normal, ⟨st.env, marks, H'.kill H.next⟩)
      | some .ret => some (.ret, ⟨st.env, marks, H'.kill H.next⟩)
      | some (.exit id) => some (.exit id, ⟨st.env, marks, H'.kill H.next⟩)
      | _ => none
     | _ => none
    | none => none
 | _ => none
def OM (P : Program) (cx : Ctx) (pin : Nat) (c : Code) (st : St) (r : Ex × St) : Prop :=
 ∀ R : Ctx → Nat → Code → St → Ex × St → Prop, (∀ (ex : ExF), (∀ cx pin c st r, ex cx pin c st = some r → R cx pin c st r) → ∀ cx pin c st r, zcb P ex cx pin c st = some r → R cx pin c st r) → R cx pin c st r
noncomputable def om (P : Program) : ExF := fun cx pin c st =>
 @dite _ (∃ r, OM P cx pin c st r) (Classical.propDecidable _) (fun h => some h.choose) (fun _ => none)
end Go.Ab
