/- What the law's proof leans on, part 6. Conditions: in each statement. -/
import Derived.Test.YtibehelnfbcnjaaGreatDoorQVA
set_option linter.all false
set_option linter.unusedSimpArgs false
set_option linter.unusedVariables false
set_option linter.unusedSectionVars false
namespace Go.Ab
open Go
inductive Q where
 | s (t : Nat)
 | v (a : AV)
def Q.ev (e : EV) : Q → Option AV
 | .s t => e.look t
 | .v a => some a
def cQ : Operand → Option Q
 | .tmp t => some (.s t)
 | .const v => (ztz v).map .v
 | .func f => some (.v (.func f [] []))
 | .global _ => none
def cQL : List Operand → Option (List Q)
 | [] => some []
 | x :: xs => match cQ x, cQL xs with | some q, some l => some (q :: l) | _, _ => none
def evQ (e : EV) : List Q → Option (List AV)
 | [] => some []
 | q :: l => match q.ev e, evQ e l with | some v, some l => some (v :: l) | _, _ => none
def cQP : List (Nat × Operand) → Option (List (Nat × Q))
 | [] => some []
 | (i, x) :: xs => match cQ x, cQP xs with | some q, some l => some ((i, q) :: l) | _, _ => none
def evP (e : EV) : List (Nat × Q) → Option (List (Nat × AV))
 | [] => some []
 | (i, q) :: l => match q.ev e, evP e l with | some v, some l => some ((i, v) :: l) | _, _ => none
inductive KK where
 | int | str | bool
inductive K where
 | mv (x : Q)
 | pick (c a b : Q)
 | new (t : TypeId) (z : List AV)
 | box (t : TypeId) (n : Nat) (x : Q)
 | ld (n : Option Nat) (x : Q)
 | st (n : Nat) (a x : Q)
 | nz (x : Q)
 | bin (op : BinOp) (t : TypeId) (x y : Q)
 | un (op : UnOp) (x : Q)
 | fa (off : Nat) (x : Q)
 | fld (off : Nat) (n : Option Nat) (x : Q)
 | ixs (sz : Nat) (x i : Q)
 | six (x i : Q)
 | lens (x : Q)
 | lenl (x : Q)
 | call (f : FuncId) (args : List Q)
 | callv (f : Q) (args : List Q)
 | ext (i : Nat) (x : Q)
 | cvt (k : IntKind) (x : Q)
 | mkf (f : FuncId) (first cap : List Q)
 | bld (z : List AV) (ps : List (Nat × Nat)) (parts : List (Nat × Q))
 | app (e : TypeId) (n w ce : Nat) (s x : Q)
 | mks (e : TypeId) (n w : Nat) (z : List AV) (l c : Q)
 | mkm (x : Option Q)
 | lk (kk : KK) (z : AV) (m k : Q) (ok : Bool)
 | mu (kk : KK) (m k x : Q)
 | slc (n : Nat) (x : Q) (lo hi : Option Q)
 | ssl (x : Q) (lo hi : Option Q)
 | cvs (x : Q)
 | mx (x : Q) (l : List Q)
 | mn (x : Q) (l : List Q)
 | bsl (t : TypeId) (s : Nat) (z : List AV) (len : Nat) (parts : List (Nat × Q))
 | raw (o : Op)
structure O where
 d : Option Nat
 g : Option (Option Nat × Bool)
 k : K
abbrev oo (d : Nat) (k : K) : O := ⟨some d, none, k⟩
abbrev og (d t : Nat) (b : Bool) (k : K) : O := ⟨some d, some (some t, b), k⟩
abbrev on (k : K) : O := ⟨none, none, k⟩
def ld1 (H : Heap) (v : AV) : Option AV := match zec H 1 v with | some [x] => some x | _ => none
def ldA (H : Heap) (n : Option Nat) (v : AV) : Option AV := match n with | some n => (zec H n v).map .agg | none => ld1 H v
def faA (off : Nat) : AV → Option AV
 | .ptr b o => some (.ptr b (o + off))
 | .rptr a cs => some (.rptr (a.add off) (cs.drop off))
 | _ => none
def zer (cs : List AV) (off : Nat) : Option Nat → Option AV
 | some n => some (.agg ((cs.drop off).take n))
 | none => cs[off]?
def fldA (off : Nat) (n : Option Nat) : AV → Option AV
 | .agg cs => zer cs off n
 | _ => none
def ixA (s : Nat) : AV → AV → Option AV
 | .rsl (some a) _ sz l, .int _ i => if s = sz && decide (0 ≤ i) then match l[i.toNat]? with | some v => some (.rptr (a.add (i.toNat * s)) v.cells) | none => none else none
 | .asl b o n _ sz, .int _ i => if s = sz && decide (0 ≤ i) && decide (i < n) then some (.ptr b (o + i.toNat * s)) else none
 | .sl b j n sz, .int _ i => if s = sz && decide (0 ≤ i) && decide (i < n) then some (.ptr b (j * s + i.toNat * s)) else none
 | _, _ => none
def sixA : AV → AV → Option AV
 | .str s, .int _ i => if 0 ≤ i then match s.data.toList[i.toNat]? with | some b => some (.int .u8 b.toNat) | none => none else none
 | _, _ => none
def yah2 : AV → Option AV
 | .str s => some (.int .i64 s.size)
 | _ => none
def zzx : AV → Option AV
 | .rsl _ _ _ l => some (.int .i64 l.length)
 | .sl _ _ n _ => some (.int .i64 n)
 | .asl _ _ n _ _ => some (.int .i64 n)
 | _ => none
def nzA : AV → Option AV
 | .ptr b o => some (.ptr b o)
 | .rptr a cs => some (.rptr a cs)
 | .func f a b => some (.func f a b)
 | _ => none
def cvtA (k : IntKind) : AV → Option AV
 | .int _ n => some (.int k (k.wrap n))
 | _ => none
def zwg (c : AV) (a b : Option AV) : Option AV := match c with | .bool t => if t then a else b | _ => none
def extA (i : Nat) : AV → Option AV
 | .tup vs => vs[i]?
 | _ => none
def stA (lo : Nat) (H : Heap) (n : Nat) (a v : AV) : Option Heap := if v.cells.length = n then zcn lo H a v.cells else none
def boxA (t : TypeId) (n : Nat) (H : Heap) (v : AV) : Option (AV × Heap) := if v.cells.length = n && zbo v.cells then some (.ptr H.next 0, H.push (.cells t v.cells)) else none
def bslA (H : Heap) (t : TypeId) (s : Nat) (z : List AV) (len : Nat) (ps : List (Nat × AV)) : Option (AV × Heap) :=
 if ps.all (fun p => zbo p.2.cells) then
  match ze9 (fun i => some (i * s, s)) z ps with
  | some cs => some (.sl H.next 0 len s, H.push (.cells t cs))
  | none => none
 else none
def kfit : KK → AV → Bool
 | .int, .int _ _ => true
 | .str, .str _ => true
 | .bool, .bool _ => true
 | _, _ => false
def zos (w m k : Nat) : Bool := decide ((2 * (m + k) + 200) * w ≤ 70368744177664) && decide (m + k ≤ 4611686018427387904)
def appS (P : Program) (H : Heap) (e : TypeId) (n w : Nat) (s : AV) (cs : List AV) (k : Nat) : Option (AV × Heap) :=
 match s with
 | .rsl none _ _ _ => if k = 0 then some (s, H) else if zos w 0 k then some (.sl H.next 0 k n, H.push (.cells e cs)) else none
 | .rsl (some _) _ _ _ => if k = 0 then some (s, H) else none
 | .sl b j m sz =>
  if k = 0 then (if zp8 P H b j m sz then some (s, H) else none) else
  if j = 0 then match H.get b with
   | some (.cells u c) => if decide (u = e) && decide (sz = n) && decide (c.length = m * sz) && zos w m k then some (.sl H.next 0 (m + k) sz, (H.kill b).push (.cells e (c ++ cs))) else none
   | _ => none
  else none
 | _ => none
def appK (P : Program) (H : Heap) (e : TypeId) (n w : Nat) (s : AV) (l : Option (List AV)) (k : Option Nat) : Option (AV × Heap) :=
 match l, k with
 | some cs, some k => if decide (cs.length = k * n) && zbo cs then appS P H e n w s cs k else none
 | _, _ => none
def mksK (H : Heap) (e : TypeId) (n w : Nat) (z : List AV) : AV → AV → Option (AV × Heap)
 | .int .i64 l, .int .i64 c => if 0 ≤ l && decide (l ≤ c) && decide (w * c ≤ 70368744177664) && decide (c ≤ 9223372036854775807) && zbo z then some (.sl H.next 0 l.toNat n, H.push (.cells e (zbu z l.toNat))) else none
 | _, _ => none
def entO (H : Heap) : AV → Option (List (AV × AV × Nat))
 | .map none => some []
 | .map (some b) => match H.get b with | some (.map es _) => some es | _ => none
 | _ => none
def lkR (z : AV) (ok : Bool) : Option (Option (Nat × AV × Nat)) → Option AV
 | some (some (_, v, _)) => some (if ok then .tup [v, .bool true] else v)
 | some none => some (if ok then .tup [z, .bool false] else z)
 | none => none
def lkK (kk : KK) (z : AV) (k : AV) (ok : Bool) : Option (List (AV × AV × Nat)) → Option AV
 | some es => if kfit kk k then lkR z ok (zdk k es 0) else none
 | none => none
def muR (H : Heap) (b : Nat) (k v : AV) (es : List (AV × AV × Nat)) (clock : Nat) : Option (Option (Nat × AV × Nat)) → Option Heap
 | some (some (i, _, born)) => some (H.set b (.map (es.set i (k, v, born)) clock))
 | some none => some (H.set b (.map (es ++ [(k, v, clock)]) (clock + 1)))
 | none => none
def muO (kk : KK) (H : Heap) (b : Nat) (k v : AV) : Option Blk → Option Heap
 | some (.map es clock) => if kfit kk k then muR H b k v es clock (zdk k es 0) else none
 | _ => none
def muK (kk : KK) (H : Heap) (m k v : AV) : Option Heap := match m with
 | .map (some b) => muO kk H b k v (H.get b)
 | _ => none
def evO (e : EV) : Option Q → Option (Option AV)
 | none => some none
 | some q => (q.ev e).map some
def slcK (P : Program) (H : Heap) (s : Nat) (x : AV) (lo hi : Option AV) : Option AV :=
 match x with
 | .rsl a cap sz xs => match zba 0 lo, zba xs.length hi with
  | some l, some h => if (s = sz || xs.isEmpty) && decide (l ≤ h) && decide (h ≤ xs.length) then some (.rsl (if cap = l then a else a.map (·.add (l * s))) (cap - l) s ((xs.drop l).take (h - l))) else none
  | _, _ => none
 | .sl b i n sz => match zba 0 lo, zba n hi with
  | some l, some h => match H.get b with
   | some (.cells u c) => if s = sz && decide (za0 P u = some sz) && decide (0 < sz) && decide ((i + n) * sz ≤ c.length) && decide (l ≤ h) && decide (h ≤ n) && (decide (l < n) || l = 0) then some (.sl b (i + l) (h - l) sz) else none
   | _ => none
  | _, _ => none
 | .asl b o n cap sz => match zba 0 lo, zba n hi with
  | some l, some h => if s = sz && decide (l ≤ h) && decide (h ≤ n) && decide (n ≤ cap) && (decide (l < cap) || l = 0) then some (.asl b (o + l * sz) (h - l) (cap - l) sz) else none
  | _, _ => none
 | _ => none
def sslK (x : AV) (lo hi : Option AV) : Option AV :=
 match x with
 | .str s => match zba 0 lo, zba s.size hi with
  | some l, some h => if l ≤ h && decide (h ≤ s.size) then some (.str (s.extract l h)) else none
  | _, _ => none
 | _ => none
def cvsR (l : Option (List AV)) (n : Option Nat) : Option AV := match l, n with
 | some cs, some n => if cs.length = n then (match zd0 cs with | some l => some (.str ⟨l.toArray⟩) | none => none) else none
 | _, _ => none
def cvsK (H : Heap) : AV → Option AV
 | .rsl a c s l => cvsR (zb5 H 1 (.rsl a c s l)) (some l.length)
 | .sl b i n s => cvsR (zb5 H 1 (.sl b i n s)) (some n)
 | _ => none
def same (H : Heap) (v : Option AV) : Option (AV × Heap) := match v with | some v => some (v, H) | none => none
def put (H : Option Heap) : Option (AV × Heap) := match H with | some H => some (undefA, H) | none => none
section
variable [E : Env]
noncomputable def kA (P : Program) (ex : ExF) (e : EV) (H : Heap) : K → Option (AV × Heap)
 | .mv x => same H (x.ev e)
 | .pick c a b => (c.ev e).bind fun c => same H (zwg c (a.ev e) (b.ev e))
 | .new t z => some (.ptr H.next 0, H.push (.cells t z))
 | .box t n x => (x.ev e).bind fun x => boxA t n H x
 | .ld n x => (x.ev e).bind fun x => same H (ldA H n x)
 | .st n a x => (a.ev e).bind fun a => (x.ev e).bind fun x => put (stA 0 H n a x)
 | .nz x => (x.ev e).bind fun x => same H (nzA x)
 | .bin op t x y => (x.ev e).bind fun x => (y.ev e).bind fun y => same H (zdi P op t x y)
 | .un op x => (x.ev e).bind fun x => same H (unA op x)
 | .fa off x => (x.ev e).bind fun x => same H (faA off x)
 | .fld off n x => (x.ev e).bind fun x => same H (fldA off n x)
 | .ixs sz x i => (x.ev e).bind fun x => (i.ev e).bind fun i => same H (ixA sz x i)
 | .six x i => (x.ev e).bind fun x => (i.ev e).bind fun i => same H (sixA x i)
 | .lens x => (x.ev e).bind fun x => same H (yah2 x)
 | .lenl x => (x.ev e).bind fun x => same H (zzx x)
 | .call f args => (evQ e args).bind fun vs => zji P ex 0 f vs H
 | .callv f args => (f.ev e).bind fun f => (evQ e args).bind fun vs => zky P ex 0 f vs H
 | .ext i x => (x.ev e).bind fun x => same H (extA i x)
 | .cvt k x => (x.ev e).bind fun x => same H (cvtA k x)
 | .mkf f a b => (evQ e a).bind fun a => (evQ e b).bind fun b => some (.func f a b, H)
 | .bld z ps parts => (evP e parts).bind fun l => same H ((ze9 (fun i => ps[i]?) z l).map .agg)
 | .app t n w ce s x => (s.ev e).bind fun s => (x.ev e).bind fun x => appK P H t n w s (zb5 H ce x) (zl4 H x)
 | .mks t n w z l c => (l.ev e).bind fun l => (c.ev e).bind fun c => mksK H t n w z l c
 | .mkm none => some (.map (some H.next), H.push (.map [] 0))
 | .mkm (some x) => (x.ev e).bind fun x => match x with | .int _ _ => some (.map (some H.next), H.push (.map [] 0)) | _ => none
 | .lk kk z m k ok => (m.ev e).bind fun m => (k.ev e).bind fun k => same H (lkK kk z k ok (entO H m))
 | .mu kk m k x => (m.ev e).bind fun m => (k.ev e).bind fun k => (x.ev e).bind fun x => put (muK kk H m k x)
 | .slc n x lo hi => (x.ev e).bind fun x => (evO e lo).bind fun l => (evO e hi).bind fun h => same H (slcK P H n x l h)
 | .ssl x lo hi => (x.ev e).bind fun x => (evO e lo).bind fun l => (evO e hi).bind fun h => same H (sslK x l h)
 | .cvs x => (x.ev e).bind fun x => same H (cvsK H x)
 | .mx x l => (x.ev e).bind fun x => (evQ e l).bind fun l => same H (maxA x l)
 | .mn x l => (x.ev e).bind fun x => (evQ e l).bind fun l => same H (minA x l)
 | .bsl t s z len parts => (evP e parts).bind fun l => bslA H t s z len l
 | .raw op => opA P ex 0 e H ⟨none, op, 0, "", #[], none⟩
def strT (P : Program) (t : TypeId) : Bool := match P.underlying t with | some .string => true | _ => false
def zlz (P : Program) (t : TypeId) : Option Nat := match P.underlying t with | some (.slice e) => za0 P e | _ => none
def zpr (P : Program) (t : TypeId) (i : Nat) : Option Field := match P.underlying t with | some (.struct fs) => fs[i]? | _ => none
def zux (P : Program) (t : TypeId) : Option (Option Nat) := match ze1 P t, za0 P t with | some true, some n => some (some n) | some false, _ => some none | _, _ => none
def lenT (P : Program) (t : Option TypeId) : Option Bool := match t.bind P.underlying with | some .string => some true | some (.slice _) => some false | _ => none
def cvtT (P : Program) (a b : TypeId) : Option IntKind := match P.underlying a, P.underlying b with | some _, some (.int k) => some k | _, _ => none
def bldT (P : Program) (t : TypeId) : Option (List AV × List (Nat × Nat)) := match zd8 P t, P.underlying t with
 | some z, some (.struct fs) => (zi8 P fs.toList).map fun ps => (z.cells, ps)
 | _, _ => none
def bslT (P : Program) (t : TypeId) (len : Nat) : Option (TypeId × Nat × List AV) := match P.underlying t with
 | some (.slice e) => match za0 P e, zd8 P e with
  | some s, some z => if len * s ≤ 16777216 && z.cells.length = s && zbo z.cells then some (e, s, zbu z.cells len) else none
  | _, _ => none
 | _ => none
def newT (P : Program) (t : TypeId) : Option (List AV) := match zd8 P t, za0 P t with | some z, some s => if z.cells.length = s && zbo z.cells then some z.cells else none | _, _ => none
def appT (P : Program) (st xt : Option TypeId) : Option (TypeId × Nat × Nat × Nat) := match st.bind P.underlying, xt.bind P.underlying with
 | some (.slice e), some xd => if yajh xd then match P.info? e, zd8 P e with
  | some i, some z => if 0 < i.size ∧ z.cells.length = i.size then some (e, i.size, i.bytes, P.cellsOf e) else none
  | _, _ => none else none
 | _, _ => none
def mksT (P : Program) (t : TypeId) : Option (TypeId × Nat × Nat × List AV) := match P.underlying t with
 | some (.slice e) => match P.info? e, zd8 P e with
  | some i, some z => if z.cells.length = i.size then some (e, i.size, i.bytes, z.cells) else none
  | _, _ => none
 | _ => none
def kkT (P : Program) (t : TypeId) : Option KK := match P.underlying t with | some (.int _) => some .int | some .string => some .str | some .bool => some .bool | _ => none
def mapT (P : Program) (t : TypeId) : Option (KK × AV) := match P.underlying t with
 | some (.map kt et) => match kkT P kt, zd8 P et with | some k, some z => some (k, z) | _, _ => none
 | _ => none
def yah9 (P : Program) (t : TypeId) : Option KK := match P.underlying t with | some (.map kt _) => kkT P kt | _ => none
def yadj (P : Program) (t : TypeId) : Bool := match P.underlying t with | some (.map _ _) => true | _ => false
def cvsT (P : Program) (a b : TypeId) : Bool := match P.underlying a, P.underlying b with | some (.slice e), some .string => isU8 P e | _, _ => false
def cQO : Option Operand → Option (Option Q)
 | none => some none
 | some x => (cQ x).map some
def cK (P : Program) (op : Op) : K :=
 match op with
 | .move x | .assign x => match cQ x with | some q => .mv q | _ => .raw op
 | .pick c a b => match cQ c, cQ a, cQ b with | some c, some a, some b => .pick c a b | _, _, _ => .raw op
 | .alloc t => match newT P t with | some z => .new t z | none => .raw op
 | .box t x => match cQ x, za0 P t with | some q, some n => .box t n q | _, _ => .raw op
 | .load t a => match cQ a, zux P t with | some q, some n => .ld n q | _, _ => .raw op
 | .store t a x => match cQ a, cQ x, za0 P t with | some a, some x, some n => .st n a x | _, _, _ => .raw op
 | .nilCheck x => match cQ x with | some q => .nz q | _ => .raw op
 | .binOp o t x y _ => match cQ x, cQ y with | some x, some y => .bin o t x y | _, _ => .raw op
 | .unOp o _ x => match cQ x with | some x => .un o x | _ => .raw op
 | .fieldAddr t x i => match cQ x, zpr P t i with
  | some x, some f => match za0 P f.type with | some s => if s = 0 then .raw op else .fa f.offset x | none => .raw op
  | _, _ => .raw op
 | .field t x i => match cQ x, zpr P t i with
  | some x, some f => match zux P f.type with | some n => .fld f.offset n x | none => .raw op
  | _, _ => .raw op
 | .indexAddr t x i => match cQ x, cQ i, zlz P t with | some x, some i, some s => .ixs s x i | _, _, _ => .raw op
 | .index t x i => match cQ x, cQ i, strT P t with | some x, some i, true => .six x i | _, _, _ => .raw op
 | .call { callee := .value (.func f), args, .. } => match cQL args.toList with | some l => .call f l | none => .raw op
 | .call { callee := .value f, args, .. } => match cQ f, cQL args.toList with | some q, some l => .callv q l | _, _ => .raw op
 | .call { callee := .builtin .len, args, argTypes } => match args.toList with
  | [x] => match cQ x, lenT P argTypes[0]? with | some q, some true => .lens q | some q, some false => .lenl q | _, _ => .raw op
  | _ => .raw op
 | .call { callee := .builtin .append, args, argTypes } => match args.toList with
  | [s, x] => match cQ s, cQ x, appT P argTypes[0]? argTypes[1]? with | some s, some x, some (e, n, w, ce) => .app e n w ce s x | _, _, _ => .raw op
  | _ => .raw op
 | .call { callee := .builtin .max, args, .. } => match args.toList with
  | x :: l => match cQ x, cQL l with | some x, some l => .mx x l | _, _ => .raw op
  | _ => .raw op
 | .call { callee := .builtin .min, args, .. } => match args.toList with
  | x :: l => match cQ x, cQL l with | some x, some l => .mn x l | _, _ => .raw op
  | _ => .raw op
 | .makeSlice t l c => match cQ l, cQ c, mksT P t with | some l, some c, some (e, n, w, z) => .mks e n w z l c | _, _, _ => .raw op
 | .makeMap _ none => .mkm none
 | .makeMap t (some x) => match cQ x, yadj P t with | some x, true => .mkm (some x) | _, _ => .raw op
 | .lookup t m k ok => match cQ m, cQ k, mapT P t with | some m, some k, some (kk, z) => .lk kk z m k ok | _, _, _ => .raw op
 | .mapUpdate t m k x | .insert t m k x => match cQ m, cQ k, cQ x, yah9 P t with | some m, some k, some x, some kk => .mu kk m k x | _, _, _, _ => .raw op
 | .slice t x lo hi none => match cQ x, cQO lo, cQO hi, P.underlying t with
  | some x, some lo, some hi, some .string => .ssl x lo hi
  | some x, some lo, some hi, some (.slice e) => match za0 P e with | some n => .slc n x lo hi | none => .raw op
  | _, _, _, _ => .raw op
 | .extract x i => match cQ x with | some q => .ext i q | _ => .raw op
 | .convert a b x => match cQ x, cvtT P a b with
  | some q, some k => .cvt k q
  | some q, none => if cvsT P a b then .cvs q else .raw op
  | _, _ => .raw op
 | .makeFunc (.func f) first cap => match cQL first.toList, cQL cap.toList with | some a, some b => .mkf f a b | _, _ => .raw op
 | .build t parts => match cQP parts.toList, bldT P t with | some ps, some (z, pl) => .bld z pl ps | _, _ => .raw op
 | .buildSlice t len parts => match cQP parts.toList, bslT P t len with | some ps, some (e, s, z) => .bsl e s z len ps | _, _ => .raw op
 | _ => .raw op
theorem zbz {e : EV} {x : Operand} {q : Q} (h : cQ x = some q) : zau e x = q.ev e := by
 cases x with
 | tmp t => cases h; rfl
 | const v =>
  simp only [cQ, Option.map_eq_some_iff] at h
  obtain ⟨a, ha, rfl⟩ := h
  simp only [zau, ha]; rfl
 | func f => cases h; rfl
 | global g => cases h
theorem zlh {e : EV} : ∀ {l : List Operand} {qs : List Q}, cQL l = some qs → zjo e l = evQ e qs
 | [], qs, h => by cases h; rfl
 | x :: xs, qs, h => by
  simp only [cQL] at h
  cases h1 : cQ x <;> cases h2 : cQL xs <;> simp [h1, h2] at h
  subst h
  simp only [zjo, evQ, zbz h1, zlh h2] <;> rfl
theorem yab6 {e : EV} : ∀ {l : List (Nat × Operand)} {qs : List (Nat × Q)}, cQP l = some qs → zdj e l = evP e qs
 | [], qs, h => by cases h; rfl
 | (i, x) :: xs, qs, h => by
  simp only [cQP] at h
  cases h1 : cQ x <;> cases h2 : cQP xs <;> simp [h1, h2] at h
  subst h
  simp only [zdj, evP, zbz h1, yab6 h2] <;> rfl
theorem yapi {P : Program} {ex : ExF} {e : EV} {H : Heap} {o : Oper} : opA P ex 0 e H o = kA P ex e H (.raw o.op) := by
 unfold kA opA
 rfl
theorem zbh {H : Heap} {v : Option AV} : v.map (fun v => (v, H)) = same H v := by cases v <;> rfl
theorem yaey {h : Option Heap} : h.map (fun h => (undefA, h)) = put h := by cases h <;> rfl
end
end Go.Ab
