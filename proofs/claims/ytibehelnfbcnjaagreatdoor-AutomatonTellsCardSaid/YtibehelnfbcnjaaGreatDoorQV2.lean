/- What the law's proof leans on, part 2. Conditions: in each statement. -/
import Derived.Test.YtibehelnfbcnjaaGreatDoorQV1
set_option linter.all false
namespace Go.Ab
open Go
class Env where
 glob : Nat → Option AV
 live : FuncId → Nat → Option (List Nat)
 hint : FuncId → Nat → List (Nat × Nat)
 inl : FuncId → Bool
variable [E : Env]
def zau (env : EV) : Operand → Option AV
 | .tmp t => env.look t
 | .const v => ztz v
 | .global g => E.glob g
 | .func f => some (.func f [] [])
def zcw (env : EV) (dst : Option Tmp) (v : AV) : EV :=
 match dst with | some d => env.set d v | none => env
def za0 (P : Program) (t : TypeId) : Option Nat := (P.info? t).map (·.size)
def zd8 (P : Program) (t : TypeId) : Option AV :=
 match P.info? t with
 | some i => match i.zero with | some z => ztz z | none => none
 | none => none
def ze1 (P : Program) (t : TypeId) : Option Bool :=
 match P.underlying t with
 | some (.struct _) | some (.array _ _) => some true
 | some _ => some false
 | none => none
def zdf : AV → Bool
 | .agg _ | .tup _ => false
 | _ => true
def zbo (l : List AV) : Bool := l.all zdf
def zec (H : Heap) (n : Nat) : AV → Option (List AV)
 | .ptr b o =>
  match H.get b with
  | some (.cells _ c) => if o + n ≤ c.length then some ((c.drop o).take n) else none
  | _ => none
 | .rptr _ cs => if n ≤ cs.length then some (cs.take n) else none
 | _ => none
def zv5 (P : Program) (H : Heap) (t : TypeId) (v : AV) : Option AV :=
 match ze1 P t, za0 P t with
 | some true, some n => (zec H n v).map .agg
 | some false, _ => match zec H 1 v with | some [x] => some x | _ => none
 | _, _ => none
def zbd (c : List AV) (o : Nat) : List AV → List AV
 | [] => c
 | v :: vs => zbd (c.set o v) (o + 1) vs
def zcn (lo : Nat) (H : Heap) (v : AV) (vs : List AV) : Option Heap :=
 match v with
 | .ptr b o =>
  match H.get b with
  | some (.cells t c) => if lo ≤ b && zbo vs && decide (o + vs.length ≤ c.length) then some (H.set b (.cells t (zbd c o vs))) else none
  | _ => none
 | _ => none
def yafs (P : Program) (lo : Nat) (H : Heap) (t : TypeId) (a v : AV) : Option Heap :=
 match za0 P t with
 | some n => if v.cells.length = n then zcn lo H a v.cells else none
 | none => none
def zb8 (op : BinOp) (k : IntKind) (a b : Int) : Option AV :=
 match op with
 | .add => some (.int k (k.wrap (a + b)))
 | .sub => some (.int k (k.wrap (a - b)))
 | .mul => some (.int k (k.wrap (a * b)))
 | .quo => if b = 0 then none else some (.int k (k.wrap (a.tdiv b)))
 | .rem => if b = 0 then none else some (.int k (a.tmod b))
 | .and => some (.int k (k.wrap ((BitVec.ofInt k.bits a &&& BitVec.ofInt k.bits b).toNat)))
 | .or => some (.int k (k.wrap ((BitVec.ofInt k.bits a ||| BitVec.ofInt k.bits b).toNat)))
 | .xor => some (.int k (k.wrap ((BitVec.ofInt k.bits a ^^^ BitVec.ofInt k.bits b).toNat)))
 | .andNot => some (.int k (k.wrap ((BitVec.ofInt k.bits a &&& ~~~ BitVec.ofInt k.bits b).toNat)))
 | .eql => some (.bool (a == b))
 | .neq => some (.bool (a != b))
 | .lss => some (.bool (decide (a < b)))
 | .leq => some (.bool (decide (a ≤ b)))
 | .gtr => some (.bool (decide (a > b)))
 | .geq => some (.bool (decide (a ≥ b)))
 | _ => none
def zdw (op : BinOp) (k : IntKind) (x y : Int) : Option AV :=
 if y < 0 then none else
 match op with
 | .shl => some (.int k (k.wrap (x * 2 ^ min y.toNat k.bits)))
 | .shr => some (.int k (x.fdiv (2 ^ min y.toNat k.bits)))
 | _ => none
def zf1 (op : BinOp) (x y : ByteArray) : Option AV :=
 let eq := x.data.toList == y.data.toList
 let lt := Op.bytesLess x.data.toList y.data.toList
 match op with
 | .add => if x.size + y.size ≤ 1152921504606846976 then some (.str (x ++ y)) else none
 | .eql => some (.bool eq)
 | .neq => some (.bool !eq)
 | .lss => some (.bool lt)
 | .leq => some (.bool (lt || eq))
 | .gtr => some (.bool !(lt || eq))
 | .geq => some (.bool !lt)
 | _ => none
def zcz : AV → AV → Option Bool
 | .bool a, .bool b => some (a == b)
 | .int k a, .int k' b => if k = k' then some (a == b) else none
 | .str a, .str b => some (a.data.toList == b.data.toList)
 | _, _ => none
def zbf (P : Program) (t : TypeId) (k : AV) : Bool :=
 match P.underlying t, k with | some (.int _), .int _ _ | some .string, .str _ | some .bool, .bool _ => true | _, _ => false
def znb (P : Program) : List Field → Nat → List AV → List AV → Option Bool
 | [], _, [], [] => some true
 | f :: fs, i, x :: xs, y :: ys =>
  if f.offset == i && f.name != "_" && zbf P f.type x then
   match zcz x y, znb P fs (i + 1) xs ys with | some a, some b => some (a && b) | _, _ => none
  else none
 | _, _, _, _ => none
def eqA (P : Program) (t : TypeId) (x y : AV) : Option Bool :=
 match P.underlying t, x, y with
 | some .bool, .bool a, .bool b => some (a == b)
 | some (.pointer _), .nilp, .nilp => some true
 | some (.pointer _), .nilp, .ptr _ _ | some (.pointer _), .ptr _ _, .nilp | some (.pointer _), .nilp, .rptr _ _ | some (.pointer _), .rptr _ _, .nilp => some false
 | some (.slice _), .rsl a _ _ _, .rsl none _ _ _ => some a.isNone
 | some (.slice _), .rsl none _ _ _, .rsl (some _) _ _ _ => some false
 | some (.slice _), .sl _ _ _ _, .rsl none _ _ _ | some (.slice _), .rsl none _ _ _, .sl _ _ _ _ => some false
 | some (.slice _), .asl _ _ _ _ _, .rsl none _ _ _ | some (.slice _), .rsl none _ _ _, .asl _ _ _ _ _ => some false
 | some (.map _ _), .map a, .map none => some a.isNone
 | some (.map _ _), .map none, .map (some _) => some false
 | some (.func _ _ _), .nilf, .nilf => some true
 | some (.func _ _ _), .nilf, .func _ _ _ | some (.func _ _ _), .func _ _ _, .nilf => some false
 | some (.struct fs), .agg xs, .agg ys =>
  if !P.stoodInHeld t && !P.eqGuardType P.depth t then znb P fs.toList 0 xs ys else none
 | _, _, _ => none
def zdi (P : Program) (op : BinOp) (t : TypeId) (x y : AV) : Option AV :=
 match op, x, y with
 | .shl, .int k a, .int _ b => zdw .shl k a b
 | .shr, .int k a, .int _ b => zdw .shr k a b
 | op, .int k a, .int k' b => if k = k' then zb8 op k a b else none
 | op, .str a, .str b => zf1 op a b
 | .eql, x, y => (eqA P t x y).map .bool
 | .neq, x, y => (eqA P t x y).map fun b => .bool !b
 | _, _, _ => none
def unA (op : UnOp) (x : AV) : Option AV :=
 match op, x with
 | .neg, .int k n => zb8 .sub k 0 n
 | .xor, .int k n => zb8 .xor k (if k.signed then -1 else k.max) n
 | .not, .bool b => some (.bool !b)
 | _, _ => none
def isU8 (P : Program) (e : TypeId) : Bool := match P.underlying e with | some (.int .u8) => true | _ => false
def yab3 : AV → Option UInt8
 | .int .u8 n => some (UInt8.ofNat n.toNat)
 | _ => none
def zd0 : List AV → Option (List UInt8)
 | [] => some []
 | v :: vs => match yab3 v, zd0 vs with | some b, some l => some (b :: l) | _, _ => none
def zb5 (H : Heap) (sz : Nat) : AV → Option (List AV)
 | .rsl _ _ s l => if s = sz || l.isEmpty then some (l.flatMap AV.cells) else none
 | .sl b i n s =>
  match H.get b with
  | some (.cells _ c) => if s = sz && decide (i * sz + n * sz ≤ c.length) then some ((c.drop (i * sz)).take (n * sz)) else none
  | _ => none
 | .asl b o n _ s =>
  match H.get b with
  | some (.cells _ c) => if s = sz && decide (o + n * sz ≤ c.length) then some ((c.drop o).take (n * sz)) else none
  | _ => none
 | .str s => if sz = 1 then some (s.data.toList.map fun b => .int .u8 b.toNat) else none
 | _ => none
def zl4 (H : Heap) : AV → Option Nat
 | .str s => some s.size
 | .rsl _ _ _ l => some l.length
 | .sl _ _ n _ => some n
 | .asl _ _ n _ _ => some n
 | .map none => some 0
 | .map (some b) => match H.get b with | some (.map es _) => some es.length | _ => none
 | _ => none
def zv2 (P : Program) (H : Heap) (t : Option TypeId) (x : AV) : Option Nat :=
 match t.bind P.underlying, x with
 | some .string, .str s => some s.size
 | some (.slice _), .rsl _ _ _ l => some l.length
 | some (.slice _), .sl _ _ n _ => some n
 | some (.slice _), .asl _ _ n _ _ => some n
 | some (.map _ _), .map none => some 0
 | some (.map _ _), .map (some b) => match H.get b with | some (.map es _) => some es.length | _ => none
 | _, _ => none
def zhy (P : Program) (H : Heap) (src dst : TypeId) (x : AV) : Option (AV × Heap) :=
 match P.underlying src, P.underlying dst, x with
 | some _, some (.int k), .int _ n => some (.int k (k.wrap n), H)
 | some .string, some .string, .str s => some (.str s, H)
 | some (.slice e), some .string, x =>
  match x with
  | .rsl .. | .sl .. =>
   if isU8 P e then match zb5 H 1 x, zl4 H x with
    | some cs, some n => if cs.length = n then (match zd0 cs with | some l => some (.str ⟨l.toArray⟩, H) | none => none) else none
    | _, _ => none
   else none
  | _ => none
 | _, _, _ => none
def ze9 (place : Nat → Option (Nat × Nat)) (cells : List AV) : List (Nat × AV) → Option (List AV)
 | [] => some cells
 | (i, v) :: rest =>
  match place i with
  | none => none
  | some (off, size) => if v.cells.length = size && decide (off + size ≤ cells.length) then ze9 place (zbd cells off v.cells) rest else none
def zdj (env : EV) : List (Nat × Operand) → Option (List (Nat × AV))
 | [] => some []
 | (i, x) :: rest => match zau env x, zdj env rest with | some v, some l => some ((i, v) :: l) | _, _ => none
def zjo (env : EV) : List Operand → Option (List AV)
 | [] => some []
 | x :: rest => match zau env x, zjo env rest with | some v, some l => some (v :: l) | _, _ => none
def zi8 (P : Program) : List Field → Option (List (Nat × Nat))
 | [] => some []
 | f :: fs => match za0 P f.type, zi8 P fs with | some s, some l => some ((f.offset, s) :: l) | _, _ => none
def zsl (P : Program) (t : TypeId) (parts : List (Nat × AV)) : Option AV :=
 match zd8 P t, P.underlying t with
 | some z, some (.struct fs) => match zi8 P fs.toList with
  | some ps => (ze9 (fun i => ps[i]?) z.cells parts).map .agg
  | none => none
 | some z, some (.array _ e) => match za0 P e with
  | some s => (ze9 (fun i => some (i * s, s)) z.cells parts).map .agg
  | none => none
 | _, _ => none
def zbu (z : List AV) : Nat → List AV
 | 0 => []
 | n + 1 => z ++ zbu z n
def zdd (P : Program) (H : Heap) (t : TypeId) (len : Nat) (parts : List (Nat × AV)) : Option (AV × Heap) :=
 match P.underlying t with
 | some (.slice e) => match za0 P e, zd8 P e with
  | some s, some z =>
   if len * s ≤ 16777216 && z.cells.length = s && zbo z.cells && parts.all (fun p => zbo p.2.cells) then
    match ze9 (fun i => some (i * s, s)) (zbu z.cells len) parts with
    | some cs => some (.sl H.next 0 len s, H.push (.cells e cs))
    | none => none
   else none
  | _, _ => none
 | _ => none
def zea (P : Program) (H : Heap) (t : TypeId) (len cap : AV) : Option (AV × Heap) :=
 match P.underlying t, len, cap with
 | some (.slice e), .int .i64 l, .int .i64 c => match P.info? e, zd8 P e with
  | some i, some z =>
   if 0 ≤ l && decide (l ≤ c) && decide (i.bytes * c ≤ 70368744177664) && decide (c ≤ 9223372036854775807) && z.cells.length = i.size && zbo z.cells then
    some (.sl H.next 0 l.toNat i.size, H.push (.cells e (zbu z.cells l.toNat)))
   else none
  | _, _ => none
 | _, _, _ => none
def zba (d : Nat) : Option AV → Option Nat
 | none => some d
 | some (.int .i64 n) => if 0 ≤ n then some n.toNat else none
 | _ => none
def zda (P : Program) (H : Heap) (t : TypeId) (x : AV) (lo hi : Option AV) : Option AV :=
 match P.underlying t, x with
 | some .string, .str s => match zba 0 lo, zba s.size hi with
  | some l, some h => if l ≤ h && decide (h ≤ s.size) then some (.str (s.extract l h)) else none
  | _, _ => none
 | some (.slice e), .rsl a cap sz xs => match za0 P e, zba 0 lo, zba xs.length hi with
  | some s, some l, some h =>
   if (s = sz || xs.isEmpty) && decide (l ≤ h) && decide (h ≤ xs.length) then some (.rsl (if cap = l then a else a.map (·.add (l * s))) (cap - l) s ((xs.drop l).take (h - l))) else none
  | _, _, _ => none
 | some (.slice e), .sl b i n sz => match za0 P e, zba 0 lo, zba n hi with
  | some s, some l, some h => match H.get b with
   | some (.cells u c) =>
    if s = sz && decide (za0 P u = some sz) && decide (0 < sz) && decide ((i + n) * sz ≤ c.length) && decide (l ≤ h) && decide (h ≤ n) && (decide (l < n) || l = 0) then some (.sl b (i + l) (h - l) sz) else none
   | _ => none
  | _, _, _ => none
 | some (.slice e), .asl b o n cap sz => match za0 P e, zba 0 lo, zba n hi with
  | some s, some l, some h => if s = sz && decide (l ≤ h) && decide (h ≤ n) && decide (n ≤ cap) && (decide (l < cap) || l = 0) then some (.asl b (o + l * sz) (h - l) (cap - l) sz) else none
  | _, _, _ => none
 | some (.array n e), .ptr b o => match za0 P e, zba 0 lo, zba n hi with
  | some s, some l, some h => if decide (l ≤ h) && decide (h ≤ n) && decide (l < n) then some (.asl b (o + l * s) (h - l) (n - l) s) else none
  | _, _, _ => none
 | _, _ => none
def zp8 (P : Program) (H : Heap) (b i m sz : Nat) : Bool :=
 match H.get b with
 | some (.cells u c) => decide (za0 P u = some sz) && decide (0 < sz) && decide ((i + m) * sz ≤ c.length)
 | _ => false
def zhz (P : Program) (t : TypeId) (x : AV) (i : Nat) : Option AV :=
 match P.underlying t with
 | some (.struct fs) => match fs[i]? with
  | some f => match za0 P f.type with
   | some s => if s = 0 then none else
    match x with
    | .ptr b o => some (.ptr b (o + f.offset))
    | .rptr a cs => some (.rptr (a.add f.offset) (cs.drop f.offset))
    | _ => none
   | none => none
  | none => none
 | _ => none
def yaah (P : Program) (t : TypeId) (cs : List AV) (off : Nat) : Option AV :=
 match ze1 P t, za0 P t with
 | some true, some n => some (.agg ((cs.drop off).take n))
 | some false, _ => cs[off]?
 | _, _ => none
def zxw (P : Program) (t : TypeId) (x : AV) (i : Nat) : Option AV :=
 match P.underlying t, x with
 | some (.struct fs), .agg cs => match fs[i]? with
  | some f => yaah P f.type cs f.offset
  | none => none
 | _, _ => none
def za8 (P : Program) (t : TypeId) (x ix : AV) : Option AV :=
 match P.underlying t, x, ix with
 | some (.slice e), .rsl (some a) _ sz l, .int _ i => match za0 P e with
  | some s => if s = sz && decide (0 ≤ i) then match l[i.toNat]? with | some v => some (.rptr (a.add (i.toNat * s)) v.cells) | none => none else none
  | none => none
 | some (.slice e), .asl b o n _ sz, .int _ i => match za0 P e with
  | some s => if s = sz && decide (0 ≤ i) && decide (i < n) then some (.ptr b (o + i.toNat * s)) else none
  | none => none
 | some (.slice e), .sl b j n sz, .int _ i => match za0 P e with
  | some s => if s = sz && decide (0 ≤ i) && decide (i < n) then some (.ptr b (j * s + i.toNat * s)) else none
  | none => none
 | some (.array n e), .ptr b o, .int _ i => match za0 P e with
  | some s => if decide (0 ≤ i) && decide (i < n) then some (.ptr b (o + i.toNat * s)) else none
  | none => none
 | some (.array n e), .rptr a cs, .int _ i => match za0 P e with
  | some s => if decide (0 ≤ i) && decide (i < n) then some (.rptr (a.add (i.toNat * s)) (cs.drop (i.toNat * s))) else none
  | none => none
 | _, _, _ => none
def zte (P : Program) (t : TypeId) (x ix : AV) : Option AV :=
 match P.underlying t, x, ix with
 | some .string, .str s, .int _ i => if 0 ≤ i then match s.data.toList[i.toNat]? with | some b => some (.int .u8 b.toNat) | none => none else none
 | some (.array n e), .agg cs, .int _ i => match za0 P e with
  | some s => if decide (0 ≤ i) && decide (i < n) then yaah P e cs (i.toNat * s) else none
  | none => none
 | _, _, _ => none
def maxA : AV → List AV → Option AV
 | v, [] => some v
 | .int k x, .int k' y :: rest => if k = k' then maxA (.int k (if y > x then y else x)) rest else none
 | _, _ => none
def minA : AV → List AV → Option AV
 | v, [] => some v
 | .int k x, .int k' y :: rest => if k = k' then minA (.int k (if y < x then y else x)) rest else none
 | _, _ => none
def yajh : TypeDesc → Bool
 | .slice _ | .string => true
 | _ => false
def zqj (i : TypeInfo) (z : AV) (cs : List AV) (n : Nat) : Bool := decide (0 < i.size) && decide (z.cells.length = i.size) && decide (cs.length = n * i.size) && zbo cs
def zhv (i : TypeInfo) (m n : Nat) : Bool := decide ((2 * (m + n) + 200) * i.bytes ≤ 70368744177664) && decide (m + n ≤ 4611686018427387904)
def zqk (P : Program) (lo : Nat) (H : Heap) (e : TypeId) (i : TypeInfo) (s : AV) (cs : List AV) (n : Nat) : Option (AV × Heap) :=
 match s with
 | .rsl none _ _ _ =>
  if n = 0 then some (s, H) else
  if zhv i 0 n then some (.sl H.next 0 n i.size, H.push (.cells e cs)) else none
 | .rsl (some _) _ _ _ => if n = 0 then some (s, H) else none
 | .sl b j m sz =>
  if n = 0 then (if zp8 P H b j m sz then some (s, H) else none) else
  if j = 0 then match H.get b with
   | some (.cells u c) =>
    if decide (lo ≤ b) && decide (u = e) && decide (sz = i.size) && decide (c.length = m * sz) && zhv i m n then
     some (.sl H.next 0 (m + n) sz, (H.kill b).push (.cells e (c ++ cs)))
    else none
   | _ => none
  else none
 | _ => none
def zmz (P : Program) (lo : Nat) (H : Heap) (st xt : Option TypeId) (s x : AV) : Option (AV × Heap) :=
 match st.bind P.underlying, xt.bind P.underlying with
 | some (.slice e), some xd =>
  if !yajh xd then none else
  match P.info? e, zd8 P e, zb5 H (P.cellsOf e) x, zl4 H x with
  | some i, some z, some cs, some n => if zqj i z cs n then zqk P lo H e i s cs n else none
  | _, _, _, _ => none
 | _, _ => none
def yan3 (P : Program) (lo : Nat) (H : Heap) (dt : Option TypeId) (d s : AV) : Option (AV × Heap) :=
 match dt.bind P.underlying with
 | some (.slice e) => match za0 P e with
  | some sz => match zb5 H sz s, zl4 H s, zl4 H d with
   | some cs, some n, some m =>
    let k := Nat.min n m
    if cs.length = n * sz then
     match d with
     | .sl b i _ dz => if dz = sz then (zcn lo H (.ptr b (i * sz)) (cs.take (k * sz))).map fun H' => (.int .i64 k, H') else none
     | .rsl none _ _ _ => some (.int .i64 0, H)
     | _ => none
    else none
   | _, _, _ => none
  | none => none
 | _ => none
def zdk (k : AV) : List (AV × AV × Nat) → Nat → Option (Option (Nat × AV × Nat))
 | [], _ => some none
 | (k', v, born) :: es, i => match zcz k k' with
  | some true => some (some (i, v, born))
  | some false => zdk k es (i + 1)
  | none => none
def yay4 (P : Program) (t : TypeId) : Bool := match P.underlying t with | some (.int _) | some .string | some .bool => true | _ => false
def znn (P : Program) (H : Heap) (t : TypeId) (m k : AV) (ok : Bool) : Option AV :=
 match P.underlying t with
 | some (.map kt et) =>
  match (match m with | .map none => some [] | .map (some b) => (match H.get b with | some (.map es _) => some es | _ => none) | _ => none), zd8 P et with
  | some es, some z => if zbf P kt k then match zdk k es 0 with
   | some r => let (v, is) := match r with | some (_, v, _) => (v, true) | none => (z, false); some (if ok then .tup [v, .bool is] else v)
   | none => none
   else none
  | _, _ => none
 | _ => none
def zfr (P : Program) (lo : Nat) (H : Heap) (t : TypeId) (m k v : AV) : Option Heap :=
 match P.underlying t, m with
 | some (.map kt _), .map (some b) => match H.get b with
  | some (.map es clock) => if lo ≤ b && zbf P kt k then match zdk k es 0 with
   | some (some (i, _, born)) => some (H.set b (.map (es.set i (k, v, born)) clock))
   | some none => some (H.set b (.map (es ++ [(k, v, clock)]) (clock + 1)))
   | none => none
   else none
  | _ => none
 | _, _ => none
def zno (P : Program) (lo : Nat) (H : Heap) (t : TypeId) (m k : AV) : Option (AV × Heap) :=
 match P.underlying t, m with
 | some (.map kt et), .map (some b) => match H.get b, zd8 P et with
  | some (.map es clock), some z => if lo ≤ b && zbf P kt k then match zdk k es 0 with
   | some (some (i, v, born)) => some (.tup [v, .int .i64 born], H.set b (.map (es.set i (k, v, born)) clock))
   | some none => some (.tup [z, .int .i64 clock], H.set b (.map (es ++ [(k, z, clock)]) (clock + 1)))
   | none => none
   else none
  | _, _ => none
 | _, _ => none
def zi2 (lo : Nat) (H : Heap) (m s v : AV) : Option Heap :=
 match m, s with
 | .map (some b), .int .i64 n => match H.get b with
  | some (.map es clock) => if lo ≤ b then match es.findIdx? (fun e => (e.2.2 : Int) == n) with
   | some i => match es[i]? with | some (k, _, born) => some (H.set b (.map (es.set i (k, v, born)) clock)) | none => none
   | none => none
   else none
  | _ => none
 | _, _ => none
def aop (P : Program) (lo : Nat) (env : EV) (H : Heap) (o : Oper) : Option (AV × Heap) :=
 let pure (v : Option AV) : Option (AV × Heap) := v.map fun v => (v, H)
 let unit (h : Option Heap) : Option (AV × Heap) := h.map fun h => (undefA, h)
 match o.op with
 | .move x | .assign x => pure (zau env x)
 | .pick c a b => match zau env c with
  | some (.bool t) => pure (if t then zau env a else zau env b)
  | _ => none
 | .alloc t => match zd8 P t, za0 P t with
  | some z, some s => if z.cells.length = s && zbo z.cells then some (.ptr H.next 0, H.push (.cells t z.cells)) else none
  | _, _ => none
 | .box t x => match zau env x, za0 P t with
  | some v, some s => if v.cells.length = s && zbo v.cells then some (.ptr H.next 0, H.push (.cells t v.cells)) else none
  | _, _ => none
 | .build t parts => (zdj env parts.toList).bind fun ps => pure (zsl P t ps)
 | .buildSlice t len parts => (zdj env parts.toList).bind fun ps => zdd P H t len ps
 | .load t a => (zau env a).bind fun a => pure (zv5 P H t a)
 | .store t a x => (zau env a).bind fun a => (zau env x).bind fun x => unit (yafs P lo H t a x)
 | .nilCheck x => match zau env x with
  | some (.ptr b o) => some (.ptr b o, H)
  | some (.rptr a cs) => some (.rptr a cs, H)
  | some (.func f a b) => some (.func f a b, H)
  | _ => none
 | .binOp op t x y _ => (zau env x).bind fun x => (zau env y).bind fun y => pure (zdi P op t x y)
 | .unOp op _ x => (zau env x).bind fun x => pure (unA op x)
 | .convert src dst x => (zau env x).bind fun x => zhy P H src dst x
 | .makeInterface t x => match P.underlying t with
  | some (.interface _) | none => none
  | some _ => pure ((zau env x).map (.iface t))
 | .makeFunc fn first cap => match fn with
  | .func f => (zjo env first.toList).bind fun a => (zjo env cap.toList).bind fun b => some (.func f a b, H)
  | _ => none
 | .makeMap _ none => some (.map (some H.next), H.push (.map [] 0))
 | .makeMap t (some x) => match P.underlying t, zau env x with
  | some (.map _ _), some (.int _ _) => some (.map (some H.next), H.push (.map [] 0))
  | _, _ => none
 | .makeSlice t l c => (zau env l).bind fun l => (zau env c).bind fun c => zea P H t l c
 | .slice t x lo hi mx => match mx with
  | some _ => none
  | none => (zau env x).bind fun x => match lo.map (zau env), hi.map (zau env) with
   | some none, _ | _, some none => none
   | l, h => pure (zda P H t x (l.bind id) (h.bind id))
 | .fieldAddr t x i => (zau env x).bind fun x => pure (zhz P t x i)
 | .field t x i => (zau env x).bind fun x => pure (zxw P t x i)
 | .indexAddr t x i => (zau env x).bind fun x => (zau env i).bind fun i => pure (za8 P t x i)
 | .index t x i => (zau env x).bind fun x => (zau env i).bind fun i => pure (zte P t x i)
 | .lookup t x i ok => (zau env x).bind fun x => (zau env i).bind fun i => pure (znn P H t x i ok)
 | .mapUpdate t m k x | .insert t m k x => (zau env m).bind fun m => (zau env k).bind fun k => (zau env x).bind fun x => unit (zfr P lo H t m k x)
 | .mapEntry t m k => (zau env m).bind fun m => (zau env k).bind fun k => zno P lo H t m k
 | .entryStore _ m s x => (zau env m).bind fun m => (zau env s).bind fun s => (zau env x).bind fun x => unit (zi2 lo H m s x)
 | .extract x i => match zau env x with
  | some (.tup vs) => pure vs[i]?
  | _ => none
 | .call { callee := .builtin b, args, argTypes } => (zjo env args.toList).bind fun vs =>
  match b, vs with
  | .len, [x] => pure ((zv2 P H argTypes[0]? x).map fun (n : Nat) => AV.int .i64 n)
  | .append, [s, x] => zmz P lo H argTypes[0]? argTypes[1]? s x
  | .copy, [d, s] => yan3 P lo H argTypes[0]? d s
  | .max, v :: rest => pure (maxA v rest)
  | .min, v :: rest => pure (minA v rest)
  | _, _ => none
 | _ => none
end Go.Ab
