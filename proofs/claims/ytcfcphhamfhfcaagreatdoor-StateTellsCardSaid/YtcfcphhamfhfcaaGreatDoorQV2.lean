/- What the law's proof leans on, part 2. Conditions: in each statement. -/
import Derived.Test.YtcfcphhamfhfcaaGreatDoorQV1
set_option linter.all false
namespace Go.Ab
open Go
class Env where
 glob : Nat → Option AV
 live : FuncId → Nat → Option (List Nat)
 hint : FuncId → Nat → List (Nat × Nat)
 inl : FuncId → Bool
variable [E : Env]
def za7 (env : EV) : Operand → Option AV
 | .tmp t => env.look t
 | .const v => zwt v
 | .global g => E.glob g
 | .func f => some (.func f [] [])
def zdu (env : EV) (dst : Option Tmp) (v : AV) : EV :=
 match dst with | some d => env.set d v | none => env
def zbl (P : Program) (t : TypeId) : Option Nat := (P.info? t).map (·.size)
def zfe (P : Program) (t : TypeId) : Option AV :=
 match P.info? t with
 | some i => match i.zero with | some z => zwt z | none => none
 | none => none
def zd8 (P : Program) (t : TypeId) : Option Bool :=
 match P.underlying t with
 | some (.struct _) | some (.array _ _) => some true
 | some _ => some false
 | none => none
def zdr : AV → Bool
 | .agg _ | .tup _ => false
 | _ => true
def zby (l : List AV) : Bool := l.all zdr
def zfj (H : Heap) (n : Nat) : AV → Option (List AV)
 | .ptr b o =>
  match H.get b with
  | some (.cells _ c) => if o + n ≤ c.length then some ((c.drop o).take n) else none
  | _ => none
 | .rptr _ cs => if n ≤ cs.length then some (cs.take n) else none
 | _ => none
def zmc (P : Program) (H : Heap) (t : TypeId) (v : AV) : Option AV :=
 match zd8 P t, zbl P t with
 | some true, some n => (zfj H n v).map .agg
 | some false, _ => match zfj H 1 v with | some [x] => some x | _ => none
 | _, _ => none
def zco (c : List AV) (o : Nat) : List AV → List AV
 | [] => c
 | v :: vs => zco (c.set o v) (o + 1) vs
def zdn (lo : Nat) (H : Heap) (v : AV) (vs : List AV) : Option Heap :=
 match v with
 | .ptr b o =>
  match H.get b with
  | some (.cells t c) => if lo ≤ b && zby vs && decide (o + vs.length ≤ c.length) then some (H.set b (.cells t (zco c o vs))) else none
  | _ => none
 | _ => none
def yaip (P : Program) (lo : Nat) (H : Heap) (t : TypeId) (a v : AV) : Option Heap :=
 match zbl P t with
 | some n => if v.cells.length = n then zdn lo H a v.cells else none
 | none => none
def zc6 (op : BinOp) (k : IntKind) (a b : Int) : Option AV :=
 match op with
 | .add => some (.int k (k.wrap (a + b)))
 | .sub => some (.int k (k.wrap (a - b)))
 | .mul => some (.int k (k.wrap (a * b)))
 | .quo => if b = 0 then none else some (.int k (k.wrap (a.tdiv b)))
 | .rem => if b = 0 then none else some (.int k (a.tmod b))
 | .and => some (.int k (k.wrap ((BitVec.ofInt k.bits a &&& BitVec.ofInt k.bits b).toNat)))
 | .or => some (.int k (k.wrap ((BitVec.ofInt k.bits a ||| BitVec.ofInt k.bits b).toNat)))
 | .xor => some (.int k (k.wrap ((BitVec.ofInt k.bits a ^^^ BitVec.ofInt k.bits b).toNat)))
 | .andNot => some (.int k (k.wrap ((BitVec.ofInt k.bits a &&& ~~~ BitVec.ofInt k.bits b).toNat)))
 | .eql => some (.bool (a == b))
 | .neq => some (.bool (a != b))
 | .lss => some (.bool (decide (a < b)))
 | .leq => some (.bool (decide (a ≤ b)))
 | .gtr => some (.bool (decide (a > b)))
 | .geq => some (.bool (decide (a ≥ b)))
 | _ => none
def zdp (op : BinOp) (k : IntKind) (x y : Int) : Option AV :=
 if y < 0 then none else
 match op with
 | .shl => some (.int k (k.wrap (x * 2 ^ min y.toNat k.bits)))
 | .shr => some (.int k (x.fdiv (2 ^ min y.toNat k.bits)))
 | _ => none
def zhf (op : BinOp) (x y : ByteArray) : Option AV :=
 let eq := x.data.toList == y.data.toList
 let lt := Op.bytesLess x.data.toList y.data.toList
 match op with
 | .add => if x.size + y.size ≤ 1152921504606846976 then some (.str (x ++ y)) else none
 | .eql => some (.bool eq)
 | .neq => some (.bool !eq)
 | .lss => some (.bool lt)
 | .leq => some (.bool (lt || eq))
 | .gtr => some (.bool !(lt || eq))
 | .geq => some (.bool !lt)
 | _ => none
def zdw : AV → AV → Option Bool
 | .bool a, .bool b => some (a == b)
 | .int k a, .int k' b => if k = k' then some (a == b) else none
 | .str a, .str b => some (a.data.toList == b.data.toList)
 | _, _ => none
def zbw (P : Program) (t : TypeId) (k : AV) : Bool :=
 match P.underlying t, k with | some (.int _), .int _ _ | some .string, .str _ | some .bool, .bool _ => true | _, _ => false
def zpw (P : Program) : List Field → Nat → List AV → List AV → Option Bool
 | [], _, [], [] => some true
 | f :: fs, i, x :: xs, y :: ys =>
  if f.offset == i && f.name != "_" && zbw P f.type x then
   match zdw x y, zpw P fs (i + 1) xs ys with | some a, some b => some (a && b) | _, _ => none
  else none
 | _, _, _, _ => none
def eqA (P : Program) (t : TypeId) (x y : AV) : Option Bool :=
 match P.underlying t, x, y with
 | some .bool, .bool a, .bool b => some (a == b)
 | some (.pointer _), .nilp, .nilp => some true
 | some (.pointer _), .nilp, .ptr _ _ | some (.pointer _), .ptr _ _, .nilp | some (.pointer _), .nilp, .rptr _ _ | some (.pointer _), .rptr _ _, .nilp => some false
 | some (.slice _), .rsl a _ _ _, .rsl none _ _ _ => some a.isNone
 | some (.slice _), .rsl none _ _ _, .rsl (some _) _ _ _ => some false
 | some (.slice _), .sl _ _ _ _, .rsl none _ _ _ | some (.slice _), .rsl none _ _ _, .sl _ _ _ _ => some false
 | some (.map _ _), .map a, .map none => some a.isNone
 | some (.map _ _), .map none, .map (some _) => some false
 | some (.func _ _ _), .nilf, .nilf => some true
 | some (.func _ _ _), .nilf, .func _ _ _ | some (.func _ _ _), .func _ _ _, .nilf => some false
 | some (.struct fs), .agg xs, .agg ys =>
  if !P.stoodInHeld t && !P.eqGuardType P.depth t then zpw P fs.toList 0 xs ys else none
 | _, _, _ => none
def zeg (P : Program) (op : BinOp) (t : TypeId) (x y : AV) : Option AV :=
 match op, x, y with
 | .shl, .int k a, .int _ b => zdp .shl k a b
 | .shr, .int k a, .int _ b => zdp .shr k a b
 | op, .int k a, .int k' b => if k = k' then zc6 op k a b else none
 | op, .str a, .str b => zhf op a b
 | .eql, x, y => (eqA P t x y).map .bool
 | .neq, x, y => (eqA P t x y).map fun b => .bool !b
 | _, _, _ => none
def unA (op : UnOp) (x : AV) : Option AV :=
 match op, x with
 | .neg, .int k n => zc6 .sub k 0 n
 | .xor, .int k n => zc6 .xor k (if k.signed then -1 else k.max) n
 | .not, .bool b => some (.bool !b)
 | _, _ => none
def isU8 (P : Program) (e : TypeId) : Bool := match P.underlying e with | some (.int .u8) => true | _ => false
def yae1 : AV → Option UInt8
 | .int .u8 n => some (UInt8.ofNat n.toNat)
 | _ => none
def ze8 : List AV → Option (List UInt8)
 | [] => some []
 | v :: vs => match yae1 v, ze8 vs with | some b, some l => some (b :: l) | _, _ => none
def zc1 (H : Heap) (sz : Nat) : AV → Option (List AV)
 | .rsl _ _ s l => if s = sz || l.isEmpty then some (l.flatMap AV.cells) else none
 | .sl b i n s =>
  match H.get b with
  | some (.cells _ c) => if s = sz && decide (i * sz + n * sz ≤ c.length) then some ((c.drop (i * sz)).take (n * sz)) else none
  | _ => none
 | .str s => if sz = 1 then some (s.data.toList.map fun b => .int .u8 b.toNat) else none
 | _ => none
def zoj (H : Heap) : AV → Option Nat
 | .str s => some s.size
 | .rsl _ _ _ l => some l.length
 | .sl _ _ n _ => some n
 | .map none => some 0
 | .map (some b) => match H.get b with | some (.map es _) => some es.length | _ => none
 | _ => none
def zyg (P : Program) (H : Heap) (t : Option TypeId) (x : AV) : Option Nat :=
 match t.bind P.underlying, x with
 | some .string, .str s => some s.size
 | some (.slice _), .rsl _ _ _ l => some l.length
 | some (.slice _), .sl _ _ n _ => some n
 | some (.map _ _), .map none => some 0
 | some (.map _ _), .map (some b) => match H.get b with | some (.map es _) => some es.length | _ => none
 | _, _ => none
def zjv (P : Program) (H : Heap) (src dst : TypeId) (x : AV) : Option (AV × Heap) :=
 match P.underlying src, P.underlying dst, x with
 | some _, some (.int k), .int _ n => some (.int k (k.wrap n), H)
 | some .string, some .string, .str s => some (.str s, H)
 | some (.slice e), some .string, x =>
  match x with
  | .rsl .. | .sl .. =>
   if isU8 P e then match zc1 H 1 x, zoj H x with
    | some cs, some n => if cs.length = n then (match ze8 cs with | some l => some (.str ⟨l.toArray⟩, H) | none => none) else none
    | _, _ => none
   else none
  | _ => none
 | _, _, _ => none
def zgn (place : Nat → Option (Nat × Nat)) (cells : List AV) : List (Nat × AV) → Option (List AV)
 | [] => some cells
 | (i, v) :: rest =>
  match place i with
  | none => none
  | some (off, size) => if v.cells.length = size && decide (off + size ≤ cells.length) then zgn place (zco cells off v.cells) rest else none
def zew (env : EV) : List (Nat × Operand) → Option (List (Nat × AV))
 | [] => some []
 | (i, x) :: rest => match za7 env x, zew env rest with | some v, some l => some ((i, v) :: l) | _, _ => none
def zlv (env : EV) : List Operand → Option (List AV)
 | [] => some []
 | x :: rest => match za7 env x, zlv env rest with | some v, some l => some (v :: l) | _, _ => none
def zlg (P : Program) : List Field → Option (List (Nat × Nat))
 | [] => some []
 | f :: fs => match zbl P f.type, zlg P fs with | some s, some l => some ((f.offset, s) :: l) | _, _ => none
def zvi (P : Program) (t : TypeId) (parts : List (Nat × AV)) : Option AV :=
 match zfe P t, P.underlying t with
 | some z, some (.struct fs) => match zlg P fs.toList with
  | some ps => (zgn (fun i => ps[i]?) z.cells parts).map .agg
  | none => none
 | some z, some (.array _ e) => match zbl P e with
  | some s => (zgn (fun i => some (i * s, s)) z.cells parts).map .agg
  | none => none
 | _, _ => none
def zca (z : List AV) : Nat → List AV
 | 0 => []
 | n + 1 => z ++ zca z n
def zen (P : Program) (H : Heap) (t : TypeId) (len : Nat) (parts : List (Nat × AV)) : Option (AV × Heap) :=
 match P.underlying t with
 | some (.slice e) => match zbl P e, zfe P e with
  | some s, some z =>
   if len * s ≤ 16777216 && z.cells.length = s && zby z.cells && parts.all (fun p => zby p.2.cells) then
    match zgn (fun i => some (i * s, s)) (zca z.cells len) parts with
    | some cs => some (.sl H.next 0 len s, H.push (.cells e cs))
    | none => none
   else none
  | _, _ => none
 | _ => none
def zfh (P : Program) (H : Heap) (t : TypeId) (len cap : AV) : Option (AV × Heap) :=
 match P.underlying t, len, cap with
 | some (.slice e), .int .i64 l, .int .i64 c => match P.info? e, zfe P e with
  | some i, some z =>
   if 0 ≤ l && decide (l ≤ c) && decide (i.bytes * c ≤ 70368744177664) && decide (c ≤ 9223372036854775807) && z.cells.length = i.size && zby z.cells then
    some (.sl H.next 0 l.toNat i.size, H.push (.cells e (zca z.cells l.toNat)))
   else none
  | _, _ => none
 | _, _, _ => none
def zcu (d : Nat) : Option AV → Option Nat
 | none => some d
 | some (.int .i64 n) => if 0 ≤ n then some n.toNat else none
 | _ => none
def zif (P : Program) (H : Heap) (t : TypeId) (x : AV) (lo hi : Option AV) : Option AV :=
 match P.underlying t, x with
 | some .string, .str s => match zcu 0 lo, zcu s.size hi with
  | some l, some h => if l ≤ h && decide (h ≤ s.size) then some (.str (s.extract l h)) else none
  | _, _ => none
 | some (.slice e), .rsl a cap sz xs => match zbl P e, zcu 0 lo, zcu xs.length hi with
  | some s, some l, some h =>
   if (s = sz || xs.isEmpty) && decide (l ≤ h) && decide (h ≤ xs.length) then some (.rsl (if cap = l then a else a.map (·.add (l * s))) (cap - l) s ((xs.drop l).take (h - l))) else none
  | _, _, _ => none
 | some (.slice e), .sl b i n sz => match zbl P e, zcu 0 lo, zcu n hi with
  | some s, some l, some h => match H.get b with
   | some (.cells u c) =>
    if s = sz && decide (zbl P u = some sz) && decide (0 < sz) && decide ((i + n) * sz ≤ c.length) && decide (l ≤ h) && decide (h ≤ n) && (decide (l < n) || l = 0) then some (.sl b (i + l) (h - l) sz) else none
   | _ => none
  | _, _, _ => none
 | _, _ => none
def zjw (P : Program) (t : TypeId) (x : AV) (i : Nat) : Option AV :=
 match P.underlying t with
 | some (.struct fs) => match fs[i]? with
  | some f => match zbl P f.type with
   | some s => if s = 0 then none else
    match x with
    | .ptr b o => some (.ptr b (o + f.offset))
    | .rptr a cs => some (.rptr (a.add f.offset) (cs.drop f.offset))
    | _ => none
   | none => none
  | none => none
 | _ => none
def yadm (P : Program) (t : TypeId) (cs : List AV) (off : Nat) : Option AV :=
 match zd8 P t, zbl P t with
 | some true, some n => some (.agg ((cs.drop off).take n))
 | some false, _ => cs[off]?
 | _, _ => none
def yaab (P : Program) (t : TypeId) (x : AV) (i : Nat) : Option AV :=
 match P.underlying t, x with
 | some (.struct fs), .agg cs => match fs[i]? with
  | some f => yadm P f.type cs f.offset
  | none => none
 | _, _ => none
def zce (P : Program) (t : TypeId) (x ix : AV) : Option AV :=
 match P.underlying t, x, ix with
 | some (.slice e), .rsl (some a) _ sz l, .int _ i => match zbl P e with
  | some s => if s = sz && decide (0 ≤ i) then match l[i.toNat]? with | some v => some (.rptr (a.add (i.toNat * s)) v.cells) | none => none else none
  | none => none
 | some (.slice e), .sl b j n sz, .int _ i => match zbl P e with
  | some s => if s = sz && decide (0 ≤ i) && decide (i < n) then some (.ptr b (j * s + i.toNat * s)) else none
  | none => none
 | some (.array n e), .ptr b o, .int _ i => match zbl P e with
  | some s => if decide (0 ≤ i) && decide (i < n) then some (.ptr b (o + i.toNat * s)) else none
  | none => none
 | some (.array n e), .rptr a cs, .int _ i => match zbl P e with
  | some s => if decide (0 ≤ i) && decide (i < n) then some (.rptr (a.add (i.toNat * s)) (cs.drop (i.toNat * s))) else none
  | none => none
 | _, _, _ => none
def zv9 (P : Program) (t : TypeId) (x ix : AV) : Option AV :=
 match P.underlying t, x, ix with
 | some .string, .str s, .int _ i => if 0 ≤ i then match s.data.toList[i.toNat]? with | some b => some (.int .u8 b.toNat) | none => none else none
 | some (.array n e), .agg cs, .int _ i => match zbl P e with
  | some s => if decide (0 ≤ i) && decide (i < n) then yadm P e cs (i.toNat * s) else none
  | none => none
 | _, _, _ => none
def maxA : AV → List AV → Option AV
 | v, [] => some v
 | .int k x, .int k' y :: rest => if k = k' then maxA (.int k (if y > x then y else x)) rest else none
 | _, _ => none
def minA : AV → List AV → Option AV
 | v, [] => some v
 | .int k x, .int k' y :: rest => if k = k' then minA (.int k (if y < x then y else x)) rest else none
 | _, _ => none
def yam4 : TypeDesc → Bool
 | .slice _ | .string => true
 | _ => false
def zsq (P : Program) (H : Heap) (b i m sz : Nat) : Bool :=
 match H.get b with
 | some (.cells u c) => decide (zbl P u = some sz) && decide (0 < sz) && decide ((i + m) * sz ≤ c.length)
 | _ => false
def zs4 (i : TypeInfo) (z : AV) (cs : List AV) (n : Nat) : Bool := decide (0 < i.size) && decide (z.cells.length = i.size) && decide (cs.length = n * i.size) && zby cs
def zjs (i : TypeInfo) (m n : Nat) : Bool := decide ((2 * (m + n) + 200) * i.bytes ≤ 70368744177664) && decide (m + n ≤ 4611686018427387904)
def zs5 (P : Program) (lo : Nat) (H : Heap) (e : TypeId) (i : TypeInfo) (s : AV) (cs : List AV) (n : Nat) : Option (AV × Heap) :=
 match s with
 | .rsl none _ _ _ =>
  if n = 0 then some (s, H) else
  if zjs i 0 n then some (.sl H.next 0 n i.size, H.push (.cells e cs)) else none
 | .rsl (some _) _ _ _ => if n = 0 then some (s, H) else none
 | .sl b j m sz =>
  if n = 0 then (if zsq P H b j m sz then some (s, H) else none) else
  if j = 0 then match H.get b with
   | some (.cells u c) =>
    if decide (lo ≤ b) && decide (u = e) && decide (sz = i.size) && decide (c.length = m * sz) && zjs i m n then
     some (.sl H.next 0 (m + n) sz, (H.kill b).push (.cells e (c ++ cs)))
    else none
   | _ => none
  else none
 | _ => none
def zpg (P : Program) (lo : Nat) (H : Heap) (st xt : Option TypeId) (s x : AV) : Option (AV × Heap) :=
 match st.bind P.underlying, xt.bind P.underlying with
 | some (.slice e), some xd =>
  if !yam4 xd then none else
  match P.info? e, zfe P e, zc1 H (P.cellsOf e) x, zoj H x with
  | some i, some z, some cs, some n => if zs4 i z cs n then zs5 P lo H e i s cs n else none
  | _, _, _, _ => none
 | _, _ => none
def yasz (P : Program) (lo : Nat) (H : Heap) (dt : Option TypeId) (d s : AV) : Option (AV × Heap) :=
 match dt.bind P.underlying with
 | some (.slice e) => match zbl P e with
  | some sz => match zc1 H sz s, zoj H s, zoj H d with
   | some cs, some n, some m =>
    let k := Nat.min n m
    if cs.length = n * sz then
     match d with
     | .sl b i _ dz => if dz = sz then (zdn lo H (.ptr b (i * sz)) (cs.take (k * sz))).map fun H' => (.int .i64 k, H') else none
     | .rsl none _ _ _ => some (.int .i64 0, H)
     | _ => none
    else none
   | _, _, _ => none
  | none => none
 | _ => none
def zex (k : AV) : List (AV × AV × Nat) → Nat → Option (Option (Nat × AV × Nat))
 | [], _ => some none
 | (k', v, born) :: es, i => match zdw k k' with
  | some true => some (some (i, v, born))
  | some false => zex k es (i + 1)
  | none => none
def ya4y (P : Program) (t : TypeId) : Bool := match P.underlying t with | some (.int _) | some .string | some .bool => true | _ => false
def zqb (P : Program) (H : Heap) (t : TypeId) (m k : AV) (ok : Bool) : Option AV :=
 match P.underlying t with
 | some (.map kt et) =>
  match (match m with | .map none => some [] | .map (some b) => (match H.get b with | some (.map es _) => some es | _ => none) | _ => none), zfe P et with
  | some es, some z => if zbw P kt k then match zex k es 0 with
   | some r => let (v, is) := match r with | some (_, v, _) => (v, true) | none => (z, false); some (if ok then .tup [v, .bool is] else v)
   | none => none
   else none
  | _, _ => none
 | _ => none
def zg6 (P : Program) (lo : Nat) (H : Heap) (t : TypeId) (m k v : AV) : Option Heap :=
 match P.underlying t, m with
 | some (.map kt _), .map (some b) => match H.get b with
  | some (.map es clock) => if lo ≤ b && zbw P kt k then match zex k es 0 with
   | some (some (i, _, born)) => some (H.set b (.map (es.set i (k, v, born)) clock))
   | some none => some (H.set b (.map (es ++ [(k, v, clock)]) (clock + 1)))
   | none => none
   else none
  | _ => none
 | _, _ => none
def zqc (P : Program) (lo : Nat) (H : Heap) (t : TypeId) (m k : AV) : Option (AV × Heap) :=
 match P.underlying t, m with
 | some (.map kt et), .map (some b) => match H.get b, zfe P et with
  | some (.map es clock), some z => if lo ≤ b && zbw P kt k then match zex k es 0 with
   | some (some (i, v, born)) => some (.tup [v, .int .i64 born], H.set b (.map (es.set i (k, v, born)) clock))
   | some none => some (.tup [z, .int .i64 clock], H.set b (.map (es ++ [(k, z, clock)]) (clock + 1)))
   | none => none
   else none
  | _, _ => none
 | _, _ => none
def zk8 (lo : Nat) (H : Heap) (m s v : AV) : Option Heap :=
 match m, s with
 | .map (some b), .int .i64 n => match H.get b with
  | some (.map es clock) => if lo ≤ b then match es.findIdx? (fun e => (e.2.2 : Int) == n) with
   | some i => match es[i]? with | some (k, _, born) => some (H.set b (.map (es.set i (k, v, born)) clock)) | none => none
   | none => none
   else none
  | _ => none
 | _, _ => none
def aop (P : Program) (lo : Nat) (env : EV) (H : Heap) (o : Oper) : Option (AV × Heap) :=
 let pure (v : Option AV) : Option (AV × Heap) := v.map fun v => (v, H)
 let unit (h : Option Heap) : Option (AV × Heap) := h.map fun h => (undefA, h)
 match o.op with
 | .move x | .assign x => pure (za7 env x)
 | .pick c a b => match za7 env c with
  | some (.bool t) => pure (if t then za7 env a else za7 env b)
  | _ => none
 | .alloc t => match zfe P t, zbl P t with
  | some z, some s => if z.cells.length = s && zby z.cells then some (.ptr H.next 0, H.push (.cells t z.cells)) else none
  | _, _ => none
 | .box t x => match za7 env x, zbl P t with
  | some v, some s => if v.cells.length = s && zby v.cells then some (.ptr H.next 0, H.push (.cells t v.cells)) else none
  | _, _ => none
 | .build t parts => (zew env parts.toList).bind fun ps => pure (zvi P t ps)
 | .buildSlice t len parts => (zew env parts.toList).bind fun ps => zen P H t len ps
 | .load t a => (za7 env a).bind fun a => pure (zmc P H t a)
 | .store t a x => (za7 env a).bind fun a => (za7 env x).bind fun x => unit (yaip P lo H t a x)
 | .nilCheck x => match za7 env x with
  | some (.ptr b o) => some (.ptr b o, H)
  | some (.rptr a cs) => some (.rptr a cs, H)
  | some (.func f a b) => some (.func f a b, H)
  | _ => none
 | .binOp op t x y _ => (za7 env x).bind fun x => (za7 env y).bind fun y => pure (zeg P op t x y)
 | .unOp op _ x => (za7 env x).bind fun x => pure (unA op x)
 | .convert src dst x => (za7 env x).bind fun x => zjv P H src dst x
 | .makeInterface t x => match P.underlying t with
  | some (.interface _) | none => none
  | some _ => pure ((za7 env x).map (.iface t))
 | .makeFunc fn first cap => match fn with
  | .func f => (zlv env first.toList).bind fun a => (zlv env cap.toList).bind fun b => some (.func f a b, H)
  | _ => none
 | .makeMap _ none => some (.map (some H.next), H.push (.map [] 0))
 | .makeMap t (some x) => match P.underlying t, za7 env x with
  | some (.map _ _), some (.int _ _) => some (.map (some H.next), H.push (.map [] 0))
  | _, _ => none
 | .makeSlice t l c => (za7 env l).bind fun l => (za7 env c).bind fun c => zfh P H t l c
 | .slice t x lo hi mx => match mx with
  | some _ => none
  | none => (za7 env x).bind fun x => match lo.map (za7 env), hi.map (za7 env) with
   | some none, _ | _, some none => none
   | l, h => pure (zif P H t x (l.bind id) (h.bind id))
 | .fieldAddr t x i => (za7 env x).bind fun x => pure (zjw P t x i)
 | .field t x i => (za7 env x).bind fun x => pure (yaab P t x i)
 | .indexAddr t x i => (za7 env x).bind fun x => (za7 env i).bind fun i => pure (zce P t x i)
 | .index t x i => (za7 env x).bind fun x => (za7 env i).bind fun i => pure (zv9 P t x i)
 | .lookup t x i ok => (za7 env x).bind fun x => (za7 env i).bind fun i => pure (zqb P H t x i ok)
 | .mapUpdate t m k x | .insert t m k x => (za7 env m).bind fun m => (za7 env k).bind fun k => (za7 env x).bind fun x => unit (zg6 P lo H t m k x)
 | .mapEntry t m k => (za7 env m).bind fun m => (za7 env k).bind fun k => zqc P lo H t m k
 | .entryStore _ m s x => (za7 env m).bind fun m => (za7 env s).bind fun s => (za7 env x).bind fun x => unit (zk8 lo H m s x)
 | .extract x i => match za7 env x with
  | some (.tup vs) => pure vs[i]?
  | _ => none
 | .call { callee := .builtin b, args, argTypes } => (zlv env args.toList).bind fun vs =>
  match b, vs with
  | .len, [x] => pure ((zyg P H argTypes[0]? x).map fun (n : Nat) => AV.int .i64 n)
  | .append, [s, x] => zpg P lo H argTypes[0]? argTypes[1]? s x
  | .copy, [d, s] => yasz P lo H argTypes[0]? d s
  | .max, v :: rest => pure (maxA v rest)
  | .min, v :: rest => pure (minA v rest)
  | _, _ => none
 | _ => none
end Go.Ab
