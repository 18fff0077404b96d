/- The abstract interpreter: values, heap, operations, code and what follows. Conditions: in each statement. -/
import Derived.Below
import Derived.Calls
import Derived.WalkKit
import Derived.Laws.CopyRow
import Derived.Laws.Append
import Derived.Laws.Rows
import Derived.Laws.StructEq
import Derived.ChangeKeysEq
import Derived.Laws.BytesString
import Derived.Orders
/-! The abstract interpreter: values, heap, operations, code. No condition: definitions. -/
namespace Go.Ab
open Go

/-- Abstract values. Own memory: ptr (block, cell), sl (block, first element, length, cells an element), map. Read-only memory: rptr, rsl bear what lies there. -/
inductive AV where
  | bool (b : Bool)
  | int (k : IntKind) (n : Int)
  | str (s : ByteArray)
  | nilp
  | ptr (b o : Nat)
  | rptr (a : Addr) (cs : List AV)
  | sl (b i n sz : Nat)
  | rsl (a : Option Addr) (cap sz : Nat) (l : List AV)
  | map (b : Option Nat)
  | func (f : FuncId) (first cap : List AV)
  | yieldf (b : Nat)
  | nilf
  | iface (t : TypeId) (v : AV)
  | nili
  | agg (cs : List AV)
  | tup (vs : List AV)
  deriving Inhabited

def AV.cells : AV → List AV
  | .agg cs => cs
  | v => [v]

abbrev Inj := Nat → Nat × Nat

mutual
def AV.conc (ι : Inj) : AV → Value
  | .bool b => .bool b
  | .int k n => .int k n
  | .str s => .string s
  | .nilp => .pointer none
  | .ptr b o => .pointer (some ⟨(ι b).1, o, none⟩)
  | .rptr a _ => .pointer (some a)
  | .sl b i n sz => .slice (some ⟨(ι b).1, i * sz, none⟩) n ((ι b).2 - i)
  | .rsl a cap _ l => .slice a l.length cap
  | .map none => .map none
  | .map (some b) => .map (some (ι b).1)
  | .func f first cap => .func (.func f) (AV.concL ι first).toArray (AV.concL ι cap).toArray
  | .yieldf b => .func (.yield (ι b).1) #[] #[]
  | .nilf => .nilFunc
  | .iface t v => .iface t (v.conc ι)
  | .nili => .nilIface
  | .agg cs => .agg (AV.concL ι cs).toArray
  | .tup vs => .tuple (AV.concL ι vs).toArray
def AV.concL (ι : Inj) : List AV → List Value
  | [] => []
  | v :: vs => v.conc ι :: AV.concL ι vs
end

mutual
/-- no reference to own memory in it -/
def AV.rf : AV → Bool
  | .ptr .. | .sl .. | .map (some _) | .yieldf _ => false
  | .func _ first cap => AV.rfL first && AV.rfL cap
  | .iface _ v => v.rf
  | .agg cs => AV.rfL cs
  | .tup vs => AV.rfL vs
  | _ => true
def AV.rfL : List AV → Bool
  | [] => true
  | v :: vs => v.rf && AV.rfL vs
end

mutual
/-- what is read-only is so in w0, below base; own blocks are below n -/
def AV.OK (w0 : World) (base n : Nat) : AV → Prop
  | .ptr b _ => b < n
  | .sl b _ _ _ => b < n
  | .map (some b) => b < n
  | .yieldf b => b < n
  | .rptr a cs => a.block < base ∧ (∀ ι j c, cs[j]? = some c → w0.cell? (a.add j) = some (c.conc ι)) ∧ AV.OKL w0 base 0 cs
  | .rsl none cap _ l => l = [] ∧ cap = 0
  | .rsl (some a) cap sz l => l.length ≤ cap ∧ (∀ ι i e, l[i]? = some e → a.block < base ∧ e.cells.length = sz ∧ ∀ j c, e.cells[j]? = some c → w0.cell? ((a.add (i * sz)).add j) = some (c.conc ι)) ∧ AV.OKL w0 base 0 l
  | .func _ first cap => AV.OKL w0 base n first ∧ AV.OKL w0 base n cap
  | .iface _ v => v.OK w0 base n
  | .agg cs => AV.OKL w0 base n cs
  | .tup vs => AV.OKL w0 base n vs
  | _ => True
def AV.OKL (w0 : World) (base n : Nat) : List AV → Prop
  | [] => True
  | v :: vs => v.OK w0 base n ∧ AV.OKL w0 base n vs
end

def undefA : AV := .tup []

mutual
/-- each own block that the value names is such -/
def AV.all (p : Nat → Bool) : AV → Bool
  | .ptr b _ => p b
  | .sl b _ _ _ => p b
  | .map (some b) => p b
  | .yieldf b => p b
  | .func _ first cap => AV.allL p first && AV.allL p cap
  | .iface _ v => v.all p
  | .agg cs => AV.allL p cs
  | .tup vs => AV.allL p vs
  | _ => true
def AV.allL (p : Nat → Bool) : List AV → Bool
  | [] => true
  | v :: vs => v.all p && AV.allL p vs
end

/-- a literal's abstract value -/
def ofLeaf : Value → Option AV
  | .bool b => some (.bool b)
  | .int k n => some (.int k n)
  | .string s => some (.str s)
  | .pointer none => some .nilp
  | .slice none 0 0 => some (.rsl none 0 0 [])
  | .map none => some (.map none)
  | .nilFunc => some .nilf
  | .nilIface => some .nili
  | _ => none
def ofLeafs : List Value → Option (List AV)
  | [] => some []
  | v :: vs => match ofLeaf v, ofLeafs vs with | some a, some l => some (a :: l) | _, _ => none
def ofVal : Value → Option AV
  | .agg cs => (ofLeafs cs.toList).map .agg
  | v => ofLeaf v

/-! ### the heap -/
inductive Blk where
  | cells (t : TypeId) (c : List AV)
  | map (es : List (AV × AV × Nat)) (clock : Nat)
  | iter (s : ByteArray) (p : Nat)
  | loop (st : LoopState) (pend : Option Code) (fn : FuncId) (tmps : List AV) (params : List Tmp) (assign body : Code) (dfr : Nat)
  | dfr
  deriving Inhabited

def Blk.all (p : Nat → Bool) : Blk → Bool
  | .cells _ c => AV.allL p c
  | .map es _ => es.all fun e => e.1.all p && e.2.1.all p
  | .loop _ _ _ tmps _ _ _ d => AV.allL p tmps && p d
  | _ => true

inductive T where
  | leaf
  | node (v : Option Blk) (l r : T)

def T.getF : Nat → T → Nat → Option Blk
  | 0, _, _ => none
  | _ + 1, .leaf, _ => none
  | f + 1, .node v l r, i => if i = 0 then v else if i % 2 = 1 then T.getF f l (i / 2) else T.getF f r (i / 2 - 1)
def T.val : T → Option Blk | .leaf => none | .node v _ _ => v
def T.lft : T → T | .leaf => .leaf | .node _ l _ => l
def T.rgt : T → T | .leaf => .leaf | .node _ _ r => r
def T.setF : Nat → T → Nat → Option Blk → T
  | 0, t, _, _ => t
  | f + 1, t, i, x =>
    if i = 0 then .node x t.lft t.rgt else if i % 2 = 1 then .node t.val (T.setF f t.lft (i / 2) x) t.rgt else .node t.val t.lft (T.setF f t.rgt (i / 2 - 1) x)

structure Heap where
  next : Nat
  t : T
def Heap.get (H : Heap) (b : Nat) : Option Blk := T.getF (b + 1) H.t b
def Heap.setO (H : Heap) (b : Nat) (x : Option Blk) : Heap := ⟨H.next, T.setF (b + 1) H.t b x⟩
def Heap.set (H : Heap) (b : Nat) (x : Blk) : Heap := H.setO b (some x)
def Heap.push (H : Heap) (x : Blk) : Heap := ⟨H.next + 1, (H.set H.next x).t⟩
def Heap.kill (H : Heap) (b : Nat) : Heap := H.setO b none
def Heap.empty : Heap := ⟨0, .leaf⟩

theorem T.getF_fuel : ∀ (f f' : Nat) (t : T) (i : Nat), i < f → i < f' → T.getF f t i = T.getF f' t i
  | 0, _, _, _, h, _ => absurd h (by omega)
  | _ + 1, 0, _, _, _, h => absurd h (by omega)
  | f + 1, f' + 1, .leaf, i, _, _ => rfl
  | f + 1, f' + 1, .node v l r, i, h, h' => by
    simp only [T.getF]
    by_cases h0 : i = 0
    · simp [h0]
    · simp only [h0, if_false]
      by_cases h1 : i % 2 = 1
      · simp only [h1, if_true]; exact T.getF_fuel f f' l _ (by omega) (by omega)
      · simp only [h1, if_false]; exact T.getF_fuel f f' r _ (by omega) (by omega)
theorem T.getF_step (f : Nat) (t : T) (i : Nat) : T.getF (f + 1) t i = if i = 0 then t.val else if i % 2 = 1 then T.getF f t.lft (i / 2) else T.getF f t.rgt (i / 2 - 1) := by
  cases t with
  | leaf =>
    have h : ∀ f j, T.getF f .leaf j = none := fun f j => by cases f <;> rfl
    simp [T.getF, T.val, T.lft, T.rgt, h]
  | node v l r => rfl
theorem T.get_set : ∀ (f g : Nat) (t : T) (i j : Nat) (x : Option Blk), i < f → j < g → T.getF g (T.setF f t i x) j = if j = i then x else T.getF g t j
  | 0, _, _, _, _, _, h, _ => absurd h (by omega)
  | _ + 1, 0, _, _, _, _, _, h => absurd h (by omega)
  | f + 1, g + 1, t, i, j, x, hi, hj => by
    rw [T.getF_step, T.getF_step]
    by_cases i0 : i = 0
    · subst i0
      simp only [T.setF, if_true, T.val, T.lft, T.rgt]
      by_cases j0 : j = 0 <;> simp [j0]
    · by_cases i1 : i % 2 = 1
      · simp only [T.setF, i0, i1, if_true, if_false, T.val, T.lft, T.rgt]
        by_cases j0 : j = 0
        · have : ¬ j = i := by omega
          subst j0; simp [Ne.symm i0]
        · by_cases j1 : j % 2 = 1
          · simp only [j0, j1, if_true, if_false]
            rw [T.get_set f g _ _ _ _ (by omega) (by omega)]
            by_cases e : j = i
            · subst e; simp
            · have : ¬ j / 2 = i / 2 := by omega
              simp [e, this]
          · have : ¬ j = i := by omega
            simp [j0, j1, this]
      · simp only [T.setF, i0, i1, if_false, T.val, T.lft, T.rgt]
        by_cases j0 : j = 0
        · subst j0; simp [Ne.symm i0]
        · by_cases j1 : j % 2 = 1
          · have : ¬ j = i := by omega
            simp [j0, j1, this]
          · simp only [j0, j1, if_false]
            rw [T.get_set f g _ _ _ _ (by omega) (by omega)]
            by_cases e : j = i
            · subst e; simp
            · have : ¬ j / 2 - 1 = i / 2 - 1 := by omega
              simp [e, this]

theorem Heap.get_setO (H : Heap) (i j : Nat) (x : Option Blk) : (H.setO i x).get j = if j = i then x else H.get j := by
  unfold Heap.get Heap.setO; exact T.get_set _ _ _ _ _ _ (by omega) (by omega)
theorem Heap.get_set (H : Heap) (i j : Nat) (x : Blk) : (H.set i x).get j = if j = i then some x else H.get j := Heap.get_setO ..
theorem Heap.get_kill (H : Heap) (i j : Nat) : (H.kill i).get j = if j = i then none else H.get j := Heap.get_setO ..
theorem Heap.get_push (H : Heap) (j : Nat) (x : Blk) : (H.push x).get j = if j = H.next then some x else H.get j := Heap.get_setO ..
@[simp] theorem Heap.next_setO (H : Heap) (i : Nat) (x : Option Blk) : (H.setO i x).next = H.next := rfl
@[simp] theorem Heap.next_set (H : Heap) (i : Nat) (x : Blk) : (H.set i x).next = H.next := rfl
@[simp] theorem Heap.next_kill (H : Heap) (i : Nat) : (H.kill i).next = H.next := rfl
@[simp] theorem Heap.next_push (H : Heap) (x : Blk) : (H.push x).next = H.next + 1 := rfl
theorem Heap.get_empty (j : Nat) : Heap.empty.get j = none := rfl
end Go.Ab
/-! The abstract interpreter: operations and code. No condition: definitions. -/
namespace Go.Ab
open Go

/-- what is known from without: package-level variables' addresses, and proved summaries of calls whose arguments and value bear no own memory -/
class Env where
  glob : Nat → Option AV
  summ : FuncId → List AV → Option AV
  hint : FuncId → Nat → Option (List AV → Heap → Nat → List Nat)
variable [E : Env]

def evalO (env : List AV) : Operand → Option AV
  | .tmp t => some (env.getD t undefA)
  | .const v => ofVal v
  | .global g => E.glob g
  | .func f => some (.func f [] [])

def putE (env : List AV) (dst : Option Tmp) (v : AV) : List AV :=
  match dst with | some d => env.set d v | none => env

def sizeA (P : Program) (t : TypeId) : Option Nat := (P.info? t).map (·.size)
def zeroA (P : Program) (t : TypeId) : Option AV :=
  match P.info? t with
  | some i => match i.zero with | some z => ofVal z | none => none
  | none => none
def isAggA (P : Program) (t : TypeId) : Option Bool :=
  match P.underlying t with
  | some (.struct _) | some (.array _ _) => some true
  | some _ => some false
  | none => none

def leafA : AV → Bool
  | .agg _ | .tup _ => false
  | _ => true
def leafs (l : List AV) : Bool := l.all leafA

/-- n cells from where v points -/
def cellsAt (H : Heap) (n : Nat) : AV → Option (List AV)
  | .ptr b o =>
    match H.get b with
    | some (.cells _ c) => if o + n ≤ c.length then some ((c.drop o).take n) else none
    | _ => none
  | .rptr _ cs => if n ≤ cs.length then some (cs.take n) else none
  | _ => none

def loadA (P : Program) (H : Heap) (t : TypeId) (v : AV) : Option AV :=
  match isAggA P t, sizeA P t with
  | some true, some n => (cellsAt H n v).map .agg
  | some false, _ => match cellsAt H 1 v with | some [x] => some x | _ => none
  | _, _ => none

def setRange (c : List AV) (o : Nat) : List AV → List AV
  | [] => c
  | v :: vs => setRange (c.set o v) (o + 1) vs

def storeCellsA (lo : Nat) (H : Heap) (v : AV) (vs : List AV) : Option Heap :=
  match v with
  | .ptr b o =>
    match H.get b with
    | some (.cells t c) => if lo ≤ b && leafs vs && decide (o + vs.length ≤ c.length) then some (H.set b (.cells t (setRange c o vs))) else none
    | _ => none
  | _ => none
def storeA (P : Program) (lo : Nat) (H : Heap) (t : TypeId) (a v : AV) : Option Heap :=
  match sizeA P t with
  | some n => if v.cells.length = n then storeCellsA lo H a v.cells else none
  | none => none

def binIntA (op : BinOp) (k : IntKind) (a b : Int) : Option AV :=
  match op with
  | .add => some (.int k (k.wrap (a + b)))
  | .sub => some (.int k (k.wrap (a - b)))
  | .mul => some (.int k (k.wrap (a * b)))
  | .quo => if b = 0 then none else some (.int k (k.wrap (a.tdiv b)))
  | .rem => if b = 0 then none else some (.int k (a.tmod b))
  | .and => some (.int k (k.wrap ((BitVec.ofInt k.bits a &&& BitVec.ofInt k.bits b).toNat)))
  | .or => some (.int k (k.wrap ((BitVec.ofInt k.bits a ||| BitVec.ofInt k.bits b).toNat)))
  | .xor => some (.int k (k.wrap ((BitVec.ofInt k.bits a ^^^ BitVec.ofInt k.bits b).toNat)))
  | .andNot => some (.int k (k.wrap ((BitVec.ofInt k.bits a &&& ~~~ BitVec.ofInt k.bits b).toNat)))
  | .eql => some (.bool (a == b))
  | .neq => some (.bool (a != b))
  | .lss => some (.bool (decide (a < b)))
  | .leq => some (.bool (decide (a ≤ b)))
  | .gtr => some (.bool (decide (a > b)))
  | .geq => some (.bool (decide (a ≥ b)))
  | _ => none
def shiftA (op : BinOp) (k : IntKind) (x y : Int) : Option AV :=
  if y < 0 then none else
  match op with
  | .shl => some (.int k (k.wrap (x * 2 ^ min y.toNat k.bits)))
  | .shr => some (.int k (x.fdiv (2 ^ min y.toNat k.bits)))
  | _ => none
def binStrA (op : BinOp) (x y : ByteArray) : Option AV :=
  let eq := x.data.toList == y.data.toList
  let lt := Op.bytesLess x.data.toList y.data.toList
  match op with
  | .add => if x.size + y.size ≤ 1152921504606846976 then some (.str (x ++ y)) else none
  | .eql => some (.bool eq)
  | .neq => some (.bool !eq)
  | .lss => some (.bool lt)
  | .leq => some (.bool (lt || eq))
  | .gtr => some (.bool !(lt || eq))
  | .geq => some (.bool !lt)
  | _ => none

def eqLeafA : AV → AV → Option Bool
  | .bool a, .bool b => some (a == b)
  | .int k a, .int k' b => if k = k' then some (a == b) else none
  | .str a, .str b => some (a.data.toList == b.data.toList)
  | _, _ => none
def keyFits (P : Program) (t : TypeId) (k : AV) : Bool :=
  match P.underlying t, k with | some (.int _), .int _ _ | some .string, .str _ | some .bool, .bool _ => true | _, _ => false
/-- structs all of whose fields are one cell of a whole number, a bool or a string -/
def eqFlat (P : Program) : List Field → Nat → List AV → List AV → Option Bool
  | [], _, [], [] => some true
  | f :: fs, i, x :: xs, y :: ys =>
    if f.offset == i && f.name != "_" && keyFits P f.type x then
      match eqLeafA x y, eqFlat P fs (i + 1) xs ys with | some a, some b => some (a && b) | _, _ => none
    else none
  | _, _, _, _ => none
def eqA (P : Program) (t : TypeId) (x y : AV) : Option Bool :=
  match P.underlying t, x, y with
  | some .bool, .bool a, .bool b => some (a == b)
  | some (.pointer _), .nilp, .nilp => some true
  | some (.pointer _), .nilp, .ptr _ _ | some (.pointer _), .ptr _ _, .nilp | some (.pointer _), .nilp, .rptr _ _ | some (.pointer _), .rptr _ _, .nilp => some false
  | some (.slice _), .rsl a _ _ _, .rsl none _ _ _ => some a.isNone
  | some (.slice _), .rsl none _ _ _, .rsl (some _) _ _ _ => some false
  | some (.slice _), .sl _ _ _ _, .rsl none _ _ _ | some (.slice _), .rsl none _ _ _, .sl _ _ _ _ => some false
  | some (.map _ _), .map a, .map none => some a.isNone
  | some (.map _ _), .map none, .map (some _) => some false
  | some (.func _ _ _), .nilf, .nilf => some true
  | some (.func _ _ _), .nilf, .func _ _ _ | some (.func _ _ _), .func _ _ _, .nilf => some false
  | some (.struct fs), .agg xs, .agg ys =>
    if !P.stoodInHeld t && !P.eqGuardType P.depth t then eqFlat P fs.toList 0 xs ys else none
  | _, _, _ => none

def binA (P : Program) (op : BinOp) (t : TypeId) (x y : AV) : Option AV :=
  match op, x, y with
  | .shl, .int k a, .int _ b => shiftA .shl k a b
  | .shr, .int k a, .int _ b => shiftA .shr k a b
  | op, .int k a, .int k' b => if k = k' then binIntA op k a b else none
  | op, .str a, .str b => binStrA op a b
  | .eql, x, y => (eqA P t x y).map .bool
  | .neq, x, y => (eqA P t x y).map fun b => .bool !b
  | _, _, _ => none

def unA (op : UnOp) (x : AV) : Option AV :=
  match op, x with
  | .neg, .int k n => binIntA .sub k 0 n
  | .xor, .int k n => binIntA .xor k (if k.signed then -1 else k.max) n
  | .not, .bool b => some (.bool !b)
  | _, _ => none

def isU8 (P : Program) (e : TypeId) : Bool := match P.underlying e with | some (.int .u8) => true | _ => false
def byteOfA : AV → Option UInt8
  | .int .u8 n => some (UInt8.ofNat n.toNat)
  | _ => none
def bytesOfA : List AV → Option (List UInt8)
  | [] => some []
  | v :: vs => match byteOfA v, bytesOfA vs with | some b, some l => some (b :: l) | _, _ => none

/-- the cells of a slice (or string): the first n elements of size sz -/
def elemsA (H : Heap) (sz : Nat) : AV → Option (List AV)
  | .rsl _ _ s l => if s = sz || l.isEmpty then some (l.flatMap AV.cells) else none
  | .sl b i n s =>
    match H.get b with
    | some (.cells _ c) => if s = sz && decide (i * sz + n * sz ≤ c.length) then some ((c.drop (i * sz)).take (n * sz)) else none
    | _ => none
  | .str s => if sz = 1 then some (s.data.toList.map fun b => .int .u8 b.toNat) else none
  | _ => none

def lenA (H : Heap) : AV → Option Nat
  | .str s => some s.size
  | .rsl _ _ _ l => some l.length
  | .sl _ _ n _ => some n
  | .map none => some 0
  | .map (some b) => match H.get b with | some (.map es _) => some es.length | _ => none
  | _ => none

def lenTA (P : Program) (H : Heap) (t : Option TypeId) (x : AV) : Option Nat :=
  match t.bind P.underlying, x with
  | some .string, .str s => some s.size
  | some (.slice _), .rsl _ _ _ l => some l.length
  | some (.slice _), .sl _ _ n _ => some n
  | some (.map _ _), .map none => some 0
  | some (.map _ _), .map (some b) => match H.get b with | some (.map es _) => some es.length | _ => none
  | _, _ => none

def convertA (P : Program) (H : Heap) (src dst : TypeId) (x : AV) : Option (AV × Heap) :=
  match P.underlying src, P.underlying dst, x with
  | some _, some (.int k), .int _ n => some (.int k (k.wrap n), H)
  | some .string, some .string, .str s => some (.str s, H)
  | some (.slice e), some .string, x =>
    match x with
    | .rsl .. | .sl .. =>
      if isU8 P e then match elemsA H 1 x, lenA H x with
        | some cs, some n => if cs.length = n then (match bytesOfA cs with | some l => some (.str ⟨l.toArray⟩, H) | none => none) else none
        | _, _ => none
      else none
    | _ => none
  | _, _, _ => none

def fillA (place : Nat → Option (Nat × Nat)) (cells : List AV) : List (Nat × AV) → Option (List AV)
  | [] => some cells
  | (i, v) :: rest =>
    match place i with
    | none => none
    | some (off, size) => if v.cells.length = size && decide (off + size ≤ cells.length) then fillA place (setRange cells off v.cells) rest else none

def evalParts (env : List AV) : List (Nat × Operand) → Option (List (Nat × AV))
  | [] => some []
  | (i, x) :: rest => match evalO env x, evalParts env rest with | some v, some l => some ((i, v) :: l) | _, _ => none
def evalL (env : List AV) : List Operand → Option (List AV)
  | [] => some []
  | x :: rest => match evalO env x, evalL env rest with | some v, some l => some (v :: l) | _, _ => none

def placesA (P : Program) : List Field → Option (List (Nat × Nat))
  | [] => some []
  | f :: fs => match sizeA P f.type, placesA P fs with | some s, some l => some ((f.offset, s) :: l) | _, _ => none

def buildA (P : Program) (t : TypeId) (parts : List (Nat × AV)) : Option AV :=
  match zeroA P t, P.underlying t with
  | some z, some (.struct fs) => match placesA P fs.toList with
    | some ps => (fillA (fun i => ps[i]?) z.cells parts).map .agg
    | none => none
  | some z, some (.array _ e) => match sizeA P e with
    | some s => (fillA (fun i => some (i * s, s)) z.cells parts).map .agg
    | none => none
  | _, _ => none

def zerosA (z : List AV) : Nat → List AV
  | 0 => []
  | n + 1 => z ++ zerosA z n

def buildSliceA (P : Program) (H : Heap) (t : TypeId) (len : Nat) (parts : List (Nat × AV)) : Option (AV × Heap) :=
  match P.underlying t with
  | some (.slice e) => match sizeA P e, zeroA P e with
    | some s, some z =>
      if len * s ≤ 16777216 && z.cells.length = s && leafs z.cells && parts.all (fun p => leafs p.2.cells) then
        match fillA (fun i => some (i * s, s)) (zerosA z.cells len) parts with
        | some cs => some (.sl H.next 0 len s, H.push (.cells e cs))
        | none => none
      else none
    | _, _ => none
  | _ => none

def makeSliceA (P : Program) (H : Heap) (t : TypeId) (len cap : AV) : Option (AV × Heap) :=
  match P.underlying t, len, cap with
  | some (.slice e), .int .i64 l, .int .i64 c => match P.info? e, zeroA P e with
    | some i, some z =>
      if 0 ≤ l && decide (l ≤ c) && decide (i.bytes * c ≤ 70368744177664) && decide (c ≤ 9223372036854775807) && z.cells.length = i.size && leafs z.cells then
        some (.sl H.next 0 l.toNat i.size, H.push (.cells e (zerosA z.cells l.toNat)))
      else none
    | _, _ => none
  | _, _, _ => none

def boundA (d : Nat) : Option AV → Option Nat
  | none => some d
  | some (.int .i64 n) => if 0 ≤ n then some n.toNat else none
  | _ => none

def sliceA (P : Program) (H : Heap) (t : TypeId) (x : AV) (lo hi : Option AV) : Option AV :=
  match P.underlying t, x with
  | some .string, .str s => match boundA 0 lo, boundA s.size hi with
    | some l, some h => if l ≤ h && decide (h ≤ s.size) then some (.str (s.extract l h)) else none
    | _, _ => none
  | some (.slice e), .rsl a cap sz xs => match sizeA P e, boundA 0 lo, boundA xs.length hi with
    | some s, some l, some h =>
      if (s = sz || xs.isEmpty) && decide (l ≤ h) && decide (h ≤ xs.length) then some (.rsl (if cap = l then a else a.map (·.add (l * s))) (cap - l) s ((xs.drop l).take (h - l))) else none
    | _, _, _ => none
  | some (.slice e), .sl b i n sz => match sizeA P e, boundA 0 lo, boundA n hi with
    | some s, some l, some h => match H.get b with
      | some (.cells u c) =>
        if s = sz && decide (sizeA P u = some sz) && decide (0 < sz) && decide ((i + n) * sz ≤ c.length) && decide (l ≤ h) && decide (h ≤ n) && (decide (l < n) || l = 0) then some (.sl b (i + l) (h - l) sz) else none
      | _ => none
    | _, _, _ => none
  | _, _ => none

def fieldAddrA (P : Program) (t : TypeId) (x : AV) (i : Nat) : Option AV :=
  match P.underlying t with
  | some (.struct fs) => match fs[i]? with
    | some f => match sizeA P f.type with
      | some s => if s = 0 then none else
        match x with
        | .ptr b o => some (.ptr b (o + f.offset))
        | .rptr a cs => some (.rptr (a.add f.offset) (cs.drop f.offset))
        | _ => none
      | none => none
    | none => none
  | _ => none
def partA (P : Program) (t : TypeId) (cs : List AV) (off : Nat) : Option AV :=
  match isAggA P t, sizeA P t with
  | some true, some n => some (.agg ((cs.drop off).take n))
  | some false, _ => cs[off]?
  | _, _ => none
def fieldA (P : Program) (t : TypeId) (x : AV) (i : Nat) : Option AV :=
  match P.underlying t, x with
  | some (.struct fs), .agg cs => match fs[i]? with
    | some f => partA P f.type cs f.offset
    | none => none
  | _, _ => none
def indexAddrA (P : Program) (t : TypeId) (x ix : AV) : Option AV :=
  match P.underlying t, x, ix with
  | some (.slice e), .rsl (some a) _ sz l, .int _ i => match sizeA P e with
    | some s => if s = sz && decide (0 ≤ i) then match l[i.toNat]? with | some v => some (.rptr (a.add (i.toNat * s)) v.cells) | none => none else none
    | none => none
  | some (.slice e), .sl b j n sz, .int _ i => match sizeA P e with
    | some s => if s = sz && decide (0 ≤ i) && decide (i < n) then some (.ptr b (j * s + i.toNat * s)) else none
    | none => none
  | some (.array n e), .ptr b o, .int _ i => match sizeA P e with
    | some s => if decide (0 ≤ i) && decide (i < n) then some (.ptr b (o + i.toNat * s)) else none
    | none => none
  | _, _, _ => none
def indexA (P : Program) (t : TypeId) (x ix : AV) : Option AV :=
  match P.underlying t, x, ix with
  | some .string, .str s, .int _ i => if 0 ≤ i then match s.data.toList[i.toNat]? with | some b => some (.int .u8 b.toNat) | none => none else none
  | some (.array n e), .agg cs, .int _ i => match sizeA P e with
    | some s => if decide (0 ≤ i) && decide (i < n) then partA P e cs (i.toNat * s) else none
    | none => none
  | _, _, _ => none

def maxA : AV → List AV → Option AV
  | v, [] => some v
  | .int k x, .int k' y :: rest => if k = k' then maxA (.int k (if y > x then y else x)) rest else none
  | _, _ => none
def minA : AV → List AV → Option AV
  | v, [] => some v
  | .int k x, .int k' y :: rest => if k = k' then minA (.int k (if y < x then y else x)) rest else none
  | _, _ => none

def srcOk : TypeDesc → Bool
  | .slice _ | .string => true
  | _ => false
/-- own elements i .. i + m lie in their block -/
def slFits (P : Program) (H : Heap) (b i m sz : Nat) : Bool :=
  match H.get b with
  | some (.cells u c) => decide (sizeA P u = some sz) && decide (0 < sz) && decide ((i + m) * sz ≤ c.length)
  | _ => false
def appendOk (i : TypeInfo) (z : AV) (cs : List AV) (n : Nat) : Bool := decide (0 < i.size) && decide (z.cells.length = i.size) && decide (cs.length = n * i.size) && leafs cs
def appendFits (i : TypeInfo) (m n : Nat) : Bool := decide ((2 * (m + n) + 200) * i.bytes ≤ 70368744177664) && decide (m + n ≤ 4611686018427387904)
def appendTo (P : Program) (lo : Nat) (H : Heap) (e : TypeId) (i : TypeInfo) (s : AV) (cs : List AV) (n : Nat) : Option (AV × Heap) :=
  match s with
  | .rsl none _ _ _ =>
    if n = 0 then some (s, H) else
    if appendFits i 0 n then some (.sl H.next 0 n i.size, H.push (.cells e cs)) else none
  | .rsl (some _) _ _ _ => if n = 0 then some (s, H) else none
  | .sl b j m sz =>
    if n = 0 then (if slFits P H b j m sz then some (s, H) else none) else
    if j = 0 then match H.get b with
      | some (.cells u c) =>
        if decide (lo ≤ b) && decide (u = e) && decide (sz = i.size) && decide (c.length = m * sz) && appendFits i m n then
          some (.sl H.next 0 (m + n) sz, (H.kill b).push (.cells e (c ++ cs)))
        else none
      | _ => none
    else none
  | _ => none
def appendA (P : Program) (lo : Nat) (H : Heap) (st xt : Option TypeId) (s x : AV) : Option (AV × Heap) :=
  match st.bind P.underlying, xt.bind P.underlying with
  | some (.slice e), some xd =>
    if !srcOk xd then none else
    match P.info? e, zeroA P e, elemsA H (P.cellsOf e) x, lenA H x with
    | some i, some z, some cs, some n => if appendOk i z cs n then appendTo P lo H e i s cs n else none
    | _, _, _, _ => none
  | _, _ => none

def copyA (P : Program) (lo : Nat) (H : Heap) (dt : Option TypeId) (d s : AV) : Option (AV × Heap) :=
  match dt.bind P.underlying with
  | some (.slice e) => match sizeA P e with
    | some sz => match elemsA H sz s, lenA H s, lenA H d with
      | some cs, some n, some m =>
        let k := Nat.min n m
        if cs.length = n * sz then
          match d with
          | .sl b i _ dz => if dz = sz then (storeCellsA lo H (.ptr b (i * sz)) (cs.take (k * sz))).map fun H' => (.int .i64 k, H') else none
          | .rsl none _ _ _ => some (.int .i64 0, H)
          | _ => none
        else none
      | _, _, _ => none
    | none => none
  | _ => none

def findA (k : AV) : List (AV × AV × Nat) → Nat → Option (Option (Nat × AV × Nat))
  | [], _ => some none
  | (k', v, born) :: es, i => match eqLeafA k k' with
    | some true => some (some (i, v, born))
    | some false => findA k es (i + 1)
    | none => none
def keyKind (P : Program) (t : TypeId) : Bool := match P.underlying t with | some (.int _) | some .string | some .bool => true | _ => false
def lookupA (P : Program) (H : Heap) (t : TypeId) (m k : AV) (ok : Bool) : Option AV :=
  match P.underlying t with
  | some (.map kt et) =>
    match (match m with | .map none => some [] | .map (some b) => (match H.get b with | some (.map es _) => some es | _ => none) | _ => none), zeroA P et with
    | some es, some z => if keyFits P kt k then match findA k es 0 with
      | some r => let (v, is) := match r with | some (_, v, _) => (v, true) | none => (z, false); some (if ok then .tup [v, .bool is] else v)
      | none => none
      else none
    | _, _ => none
  | _ => none
def mapUpdateA (P : Program) (lo : Nat) (H : Heap) (t : TypeId) (m k v : AV) : Option Heap :=
  match P.underlying t, m with
  | some (.map kt _), .map (some b) => match H.get b with
    | some (.map es clock) => if lo ≤ b && keyFits P kt k then match findA k es 0 with
      | some (some (i, _, born)) => some (H.set b (.map (es.set i (k, v, born)) clock))
      | some none => some (H.set b (.map (es ++ [(k, v, clock)]) (clock + 1)))
      | none => none
      else none
    | _ => none
  | _, _ => none
def mapEntryA (P : Program) (lo : Nat) (H : Heap) (t : TypeId) (m k : AV) : Option (AV × Heap) :=
  match P.underlying t, m with
  | some (.map kt et), .map (some b) => match H.get b, zeroA P et with
    | some (.map es clock), some z => if lo ≤ b && keyFits P kt k then match findA k es 0 with
      | some (some (i, v, born)) => some (.tup [v, .int .i64 born], H.set b (.map (es.set i (k, v, born)) clock))
      | some none => some (.tup [z, .int .i64 clock], H.set b (.map (es ++ [(k, z, clock)]) (clock + 1)))
      | none => none
      else none
    | _, _ => none
  | _, _ => none
def entryStoreA (lo : Nat) (H : Heap) (m s v : AV) : Option Heap :=
  match m, s with
  | .map (some b), .int .i64 n => match H.get b with
    | some (.map es clock) => if lo ≤ b then match es.findIdx? (fun e => (e.2.2 : Int) == n) with
      | some i => match es[i]? with | some (k, _, born) => some (H.set b (.map (es.set i (k, v, born)) clock)) | none => none
      | none => none
      else none
    | _ => none
  | _, _ => none

/-- what an operation that is no call of a Go function does: a value (or none of it: skip) and the heap -/
def aop (P : Program) (lo : Nat) (env : List AV) (H : Heap) (o : Oper) : Option (AV × Heap) :=
  let pure (v : Option AV) : Option (AV × Heap) := v.map fun v => (v, H)
  let unit (h : Option Heap) : Option (AV × Heap) := h.map fun h => (undefA, h)
  match o.op with
  | .move x | .assign x => pure (evalO env x)
  | .pick c a b => match evalO env c with
    | some (.bool t) => pure (if t then evalO env a else evalO env b)
    | _ => none
  | .alloc t => match zeroA P t, sizeA P t with
    | some z, some s => if z.cells.length = s && leafs z.cells then some (.ptr H.next 0, H.push (.cells t z.cells)) else none
    | _, _ => none
  | .box t x => match evalO env x, sizeA P t with
    | some v, some s => if v.cells.length = s && leafs v.cells then some (.ptr H.next 0, H.push (.cells t v.cells)) else none
    | _, _ => none
  | .build t parts => (evalParts env parts.toList).bind fun ps => pure (buildA P t ps)
  | .buildSlice t len parts => (evalParts env parts.toList).bind fun ps => buildSliceA P H t len ps
  | .load t a => (evalO env a).bind fun a => pure (loadA P H t a)
  | .store t a x => (evalO env a).bind fun a => (evalO env x).bind fun x => unit (storeA P lo H t a x)
  | .nilCheck x => match evalO env x with
    | some (.ptr b o) => some (.ptr b o, H)
    | some (.rptr a cs) => some (.rptr a cs, H)
    | some (.func f a b) => some (.func f a b, H)
    | _ => none
  | .binOp op t x y _ => (evalO env x).bind fun x => (evalO env y).bind fun y => pure (binA P op t x y)
  | .unOp op _ x => (evalO env x).bind fun x => pure (unA op x)
  | .convert src dst x => (evalO env x).bind fun x => convertA P H src dst x
  | .makeInterface t x => match P.underlying t with
    | some (.interface _) | none => none
    | some _ => pure ((evalO env x).map (.iface t))
  | .makeFunc fn first cap => match fn with
    | .func f => (evalL env first.toList).bind fun a => (evalL env cap.toList).bind fun b => some (.func f a b, H)
    | _ => none
  | .makeMap _ none => some (.map (some H.next), H.push (.map [] 0))
  | .makeMap t (some x) => match P.underlying t, evalO env x with
    | some (.map _ _), some (.int _ _) => some (.map (some H.next), H.push (.map [] 0))
    | _, _ => none
  | .makeSlice t l c => (evalO env l).bind fun l => (evalO env c).bind fun c => makeSliceA P H t l c
  | .slice t x lo hi mx => match mx with
    | some _ => none
    | none => (evalO env x).bind fun x => match lo.map (evalO env), hi.map (evalO env) with
      | some none, _ | _, some none => none
      | l, h => pure (sliceA P H t x (l.bind id) (h.bind id))
  | .fieldAddr t x i => (evalO env x).bind fun x => pure (fieldAddrA P t x i)
  | .field t x i => (evalO env x).bind fun x => pure (fieldA P t x i)
  | .indexAddr t x i => (evalO env x).bind fun x => (evalO env i).bind fun i => pure (indexAddrA P t x i)
  | .index t x i => (evalO env x).bind fun x => (evalO env i).bind fun i => pure (indexA P t x i)
  | .lookup t x i ok => (evalO env x).bind fun x => (evalO env i).bind fun i => pure (lookupA P H t x i ok)
  | .mapUpdate t m k x | .insert t m k x => (evalO env m).bind fun m => (evalO env k).bind fun k => (evalO env x).bind fun x => unit (mapUpdateA P lo H t m k x)
  | .mapEntry t m k => (evalO env m).bind fun m => (evalO env k).bind fun k => mapEntryA P lo H t m k
  | .entryStore _ m s x => (evalO env m).bind fun m => (evalO env s).bind fun s => (evalO env x).bind fun x => unit (entryStoreA lo H m s x)
  | .extract x i => match evalO env x with
    | some (.tup vs) => pure vs[i]?
    | _ => none
  | .call { callee := .builtin b, args, argTypes } => (evalL env args.toList).bind fun vs =>
    match b, vs with
    | .len, [x] => pure ((lenTA P H argTypes[0]? x).map fun (n : Nat) => AV.int .i64 n)
    | .append, [s, x] => appendA P lo H argTypes[0]? argTypes[1]? s x
    | .copy, [d, s] => copyA P lo H argTypes[0]? d s
    | .max, v :: rest => pure (maxA v rest)
    | .min, v :: rest => pure (minA v rest)
    | _, _ => none
  | _ => none

end Go.Ab
/-! The abstract interpreter: regions, calls, code. No condition: definitions. -/
namespace Go.Ab
open Go
variable [E : Env]

inductive Ex where
  | normal
  | exit (id : Nat)
  | ret
  | panic (v : AV)

structure St where
  env : List AV
  marks : List Nat
  H : Heap

/-- which function's frame, and the loop whose round it is -/
structure Ctx where
  fn : FuncId
  rnd : Option Nat

abbrev ExF := Ctx → Nat → Code → St → Option (Ex × St)

def resultsA (P : Program) (H : Heap) (env : List AV) : List ResultVar → Option (List AV)
  | [] => some []
  | .tmp t :: rest => match resultsA P H env rest with | some l => some (env.getD t undefA :: l) | none => none
  | .cell a t :: rest => match loadA P H t (env.getD a undefA), resultsA P H env rest with | some v, some l => some (v :: l) | _, _ => none
def tupA : List AV → AV
  | [v] => v
  | vs => .tup vs

def dropMarks (H : Heap) : List Nat → Option Heap
  | [] => some H
  | b :: bs => match H.get b with | some .dfr => dropMarks (H.kill b) bs | _ => none

/-- all blocks that there were are as they were -/
noncomputable def unch (H H' : Heap) : Bool := @decide (∀ b, b < H.next → H'.get b = H.get b) (Classical.propDecidable _)
/-- a Go function is called; what it leaves behind is dropped if nothing that there was has changed and the value names no own memory -/
noncomputable def callA (P : Program) (ex : ExF) (lo : Nat) (f : FuncId) (args : List AV) (H : Heap) : Option (AV × Heap) :=
  match P.funcs[f]? with
  | none => none
  | some fn => match fn.body with
    | none => none
    | some c =>
    match E.summ f args with
    | some v => if AV.rfL args then some (v, H) else none
    | none =>
      let own := AV.rfL args
      match ex ⟨f, none⟩ (if own then H.next else lo) c ⟨args ++ List.replicate (fn.ntmps - args.length) undefA, [], H⟩ with
      | some (.normal, st) | some (.ret, st) => match dropMarks st.H st.marks with
        | some H' => match resultsA P H' st.env fn.results.toList with
          | some vs => if (own || unch H H') && (tupA vs).rf then some (tupA vs, H) else some (tupA vs, H')
          | none => none
        | none => none
      | _ => none

def setParams (env : List AV) : List Tmp → List AV → Option (List AV)
  | [], [] => some env
  | t :: ts, v :: vs => setParams (env.set t v) ts vs
  | _, _ => none

/-- a round of a range over a function -/
def endRoundA (H : Heap) (l : Nat) (jump : Option Code) : Option (AV × Heap) :=
  match H.get l with
  | some (.loop .busy _ fn tmps params assign body d) => some (.bool jump.isNone, H.set l (.loop (if jump.isNone then .ready else .done) jump fn tmps params assign body d))
  | _ => none
def roundA (ex : ExF) (lo l : Nat) (args : List AV) (H : Heap) : Option (AV × Heap) :=
  match H.get l with
  | some (.loop _ _ fn tmps params assign body _) =>
    if lo ≤ l then
      match setParams tmps params args with
      | none => none
      | some env => match ex ⟨fn, some l⟩ lo assign ⟨env, [], H⟩ with
        | some (.normal, ⟨env, [], H⟩) => match H.get l with
          | some (.loop .ready pend fn1 tmps1 params1 assign1 body1 d1) =>
            match ex ⟨fn, some l⟩ lo body ⟨env, [], H.set l (.loop .busy pend fn1 tmps1 params1 assign1 body1 d1)⟩ with
            | some (.normal, ⟨_, [], H⟩) => endRoundA H l none
            | some (.ret, ⟨_, [], H⟩) => endRoundA H l (some .ret)
            | some (.exit id, ⟨_, [], H⟩) => endRoundA H l (some (.exit id))
            | _ => none
          | _ => none
        | _ => none
    else none
  | _ => none

/-- a function value is called -/
noncomputable def callV (P : Program) (ex : ExF) (lo : Nat) (f : AV) (args : List AV) (H : Heap) : Option (AV × Heap) :=
  match f with
  | .func f first cap => callA P ex lo f (first ++ args ++ cap) H
  | .yieldf l => roundA ex lo l args H
  | _ => none

/-- an operation, calls too -/
noncomputable def opA (P : Program) (ex : ExF) (lo : Nat) (env : List AV) (H : Heap) (o : Oper) : Option (AV × Heap) :=
  match o.op with
  | .call { callee := .value f, args, .. } => (evalO env f).bind fun f => (evalL env args.toList).bind fun vs => callV P ex lo f vs H
  | _ => aop P lo env H o

def yieldedA (ops : Array Oper) (env : List AV) (j : Nat) : Option Bool :=
  match ((ops[j]?).bind (·.dst)).bind (env[·]?) with
  | some (.bool b) => some b
  | _ => none

/-- a region that goes in the text's order -/
noncomputable def runOps (P : Program) (ex : ExF) (lo : Nat) (ops : Array Oper) : List Oper → List AV → Heap → Option (List AV × Heap)
  | [], env, H => some (env, H)
  | o :: rest, env, H =>
    if Region.wanted o (yieldedA ops env) then
      match opA P ex lo env H o with
      | some (v, H') => runOps P ex lo ops rest (putE env o.dst v) H'
      | none => none
    else runOps P ex lo ops rest (putE env o.dst undefA) H

/-- ids of blocks that are hidden from an operation -/
def hideR (H : Heap) (a : Nat) : Nat → Heap
  | 0 => H
  | n + 1 => hideR (H.kill a) (a + 1) n
def viewA (H : Heap) (bef : Nat) : List (Nat × Nat × Nat) → Heap
  | [] => H
  | (j, a, n) :: rest => viewA (if bef.testBit j then H else hideR H a n) bef rest

def needs (ops : Array Oper) (o : Oper) : List Tmp :=
  (o.op.operands.toList.filterMap fun | .tmp t => some t | _ => none) ++ (match o.guard with | some (j, _) => (((ops[j]?).bind (·.dst)).toList) | none => [])

/-- no two operations without an order touch one temporary that one of them writes -/
def raceFree (ops : Array Oper) (bef : Array Nat) : Bool :=
  (List.range ops.size).all fun i => (List.range ops.size).all fun j =>
    i == j || (bef.getD i 0).testBit j || (bef.getD j 0).testBit i ||
    match ops[i]?, ops[j]? with
    | some x, some y => (match x.dst with | some d => !(needs ops y).contains d && y.dst != some d | none => true)
    | _, _ => true
def afterAll (bef : Nat) : Nat → Bool
  | 0 => true
  | i + 1 => bef.testBit i && afterAll bef i

/-- operations that neither look into the heap nor change what is there -/
def heapFree : Op → Bool
  | .move _ | .assign _ | .pick .. | .build .. | .nilCheck _ | .binOp .. | .unOp .. | .makeInterface .. | .makeFunc .. | .fieldAddr .. | .field .. | .indexAddr .. | .index .. | .extract ..
  | .alloc _ | .box .. | .buildSlice .. | .makeMap .. | .makeSlice .. => true
  | _ => false
def onlyReads : Op → Bool
  | .load .. | .lookup .. | .slice .. => true
  | _ => false
/-- how many operations are there before those that stand, each, behind all before them -/
def quietLen (bef : Array Nat) : Nat → Nat
  | 0 => 0
  | i + 1 => if afterAll (bef.getD i 0) i then quietLen bef i else i + 1

/-- blocks of K, n of them from a on, laid over H -/
def copyR (H K : Heap) (a : Nat) : Nat → Heap
  | 0 => H
  | n + 1 => copyR (H.setO a (K.get a)) K (a + 1) n
def growH (H K : Heap) : Heap := ⟨H.next + (K.next - H.next), (copyR H K H.next (K.next - H.next)).t⟩

/-- not a block of an operation that need not stand before -/
def visA (bef : Nat) (kept : List (Nat × Nat × Nat)) (b : Nat) : Bool := kept.all fun q => bef.testBit q.1 || !(decide (q.2.1 ≤ b) && decide (b < q.2.1 + q.2.2))
def newOk (p : Nat → Bool) (H H' : Heap) : Bool := (List.range (H'.next - H.next)).all fun k => match H'.get (H.next + k) with | some x => x.all p | none => true

/-- quiet operations, in whatever order. 'kept': (j, a, n): operation j laid the n blocks from a on -/
noncomputable def runQuiet (P : Program) (ex : ExF) (ops : Array Oper) (bef : Array Nat) : Nat → List Oper → List AV → Heap → List (Nat × Nat × Nat) → Option (List AV × Heap)
  | _, [], env, H, _ => some (env, H)
  | i, o :: rest, env, H, kept =>
    let b := bef.getD i 0
    if Region.wanted o (yieldedA ops env) then
      if heapFree o.op then
        match opA P ex H.next env H o with
        | some (v, H') =>
          if v.all (visA b kept) && newOk (visA b kept) H H' then runQuiet P ex ops bef (i + 1) rest (putE env o.dst v) H' (if H'.next = H.next then kept else (i, H.next, H'.next - H.next) :: kept)
          else none
        | none => none
      else
        match opA P ex H.next env (viewA H b kept) o with
        | some (v, H') =>
          if !v.all (visA b kept) then none else
          if onlyReads o.op || v.rf then runQuiet P ex ops bef (i + 1) rest (putE env o.dst v) H kept
          else if !newOk (visA b kept) H H' then none
          else runQuiet P ex ops bef (i + 1) rest (putE env o.dst v) (growH H H') ((i, H.next, H'.next - H.next) :: kept)
        | none => none
    else runQuiet P ex ops bef (i + 1) rest (putE env o.dst undefA) H kept

/-- each edge that binds leads back -/
def edgesOk : Nat → List Oper → Bool
  | _, [] => true
  | i, o :: rest => (o.after.all fun e => !Region.binds .any e || decide (e.on < i)) && edgesOk (i + 1) rest

/-- 'bef' says what must stand before an operation -/
def befOk (ops : Array Oper) (bef : Array Nat) : Bool :=
  decide (bef.size = ops.size) && (List.range ops.size).all fun i => match ops[i]? with
    | some o => bef.getD i 0 == o.after.toList.foldl (fun s e => if Region.binds .any e then s ||| 2 ^ e.on ||| bef.getD e.on 0 else s) 0
    | none => true

noncomputable def runDraw (P : Program) (ex : ExF) (lo : Nat) (ops : Array Oper) (env : List AV) (H : Heap) : Option (List AV × Heap) :=
  let bef := Region.before ops
  if raceFree ops bef && edgesOk 0 ops.toList && befOk ops bef then
    let m := quietLen bef ops.size
    match runQuiet P ex ops bef 0 (ops.toList.take m) env H [] with
    | some (env, H) => runOps P ex lo ops (ops.toList.drop m) env H
    | none => none
  else none

/-! ### operations that change what is there, in an open order: W tells which blocks each of them may change -/
def unord (bef : Array Nat) (i j : Nat) : Bool := i != j && !(bef.getD i 0).testBit j && !(bef.getD j 0).testBit i
/-- the blocks that are hidden from operation j: what operations without an order change, or have made -/
def hidL (W : Nat → List Nat) (bef : Array Nat) (m j n : Nat) (kept : List (Nat × Nat × Nat)) : List Nat :=
  (((List.range m).flatMap fun i => if unord bef i j then W i else []) ++ (kept.flatMap fun q => if (bef.getD j 0).testBit q.1 then [] else List.range' q.2.1 q.2.2)).filter fun b => decide (b < n)
def killL (H : Heap) : List Nat → Heap
  | [] => H
  | b :: l => killL (H.kill b) l
/-- the blocks of the list as they are in K -/
def putL (H K : Heap) : List Nat → Heap
  | [] => H
  | b :: l => putL (H.setO b (K.get b)) K l
/-- what an operation may do -/
structure LOk (hl W : List Nat) (H V : Heap) (v : AV) : Prop where
  next : H.next ≤ V.next
  lt : (∀ b x, H.get b = some x → b < H.next) → ∀ b x, V.get b = some x → b < V.next
  val : v.all (fun b => !hl.contains b) = true
  own : ∀ b ∈ W, b < H.next ∧ hl.contains b = false
  same : ∀ b, b < H.next → b ∉ W → hl.contains b = false → V.get b = H.get b
  new : ∀ b x, (b ∈ W ∨ (H.next ≤ b ∧ b < V.next)) → V.get b = some x → x.all (fun b => !hl.contains b) = true
noncomputable def runL (P : Program) (ex : ExF) (lo : Nat) (ops : Array Oper) (bef : Array Nat) (m : Nat) (W : Nat → List Nat) : Nat → List Oper → List AV → Heap → List (Nat × Nat × Nat) → Option (List AV × Heap)
  | _, [], env, H, _ => some (env, H)
  | i, o :: rest, env, H, kept =>
    if Region.wanted o (yieldedA ops env) then
      if heapFree o.op then
        match opA P ex lo env H o with
        | some (v, V) =>
          if @decide (LOk (hidL W bef m i H.next kept) (W i) H V v) (Classical.propDecidable _) then
            runL P ex lo ops bef m W (i + 1) rest (putE env o.dst v) V (if V.next = H.next then kept else (i, H.next, V.next - H.next) :: kept)
          else none
        | none => none
      else
        match opA P ex lo env (killL H (hidL W bef m i H.next kept)) o with
        | some (v, V) =>
          if @decide (LOk (hidL W bef m i H.next kept) (W i) H V v) (Classical.propDecidable _) then
            runL P ex lo ops bef m W (i + 1) rest (putE env o.dst v) (if @decide (V = killL H (hidL W bef m i H.next kept)) (Classical.propDecidable _) then H else putL V H (hidL W bef m i H.next kept))
              (if V.next = H.next then kept else (i, H.next, V.next - H.next) :: kept)
          else none
        | none => none
    else runL P ex lo ops bef m W (i + 1) rest (putE env o.dst undefA) H kept
noncomputable def runLoud (P : Program) (ex : ExF) (lo : Nat) (ops : Array Oper) (W : Nat → List Nat) (env : List AV) (H : Heap) : Option (List AV × Heap) :=
  let bef := Region.before ops
  if raceFree ops bef && edgesOk 0 ops.toList && befOk ops bef then
    let m := quietLen bef ops.size
    match runL P ex lo ops bef m W 0 (ops.toList.take m) env H [] with
    | some (env, H) => runOps P ex lo ops (ops.toList.drop m) env H
    | none => none
  else none
noncomputable def runD (P : Program) (ex : ExF) (fn : FuncId) (id lo : Nat) (ops : Array Oper) (env : List AV) (H : Heap) : Option (List AV × Heap) :=
  match E.hint fn id with
  | none => runDraw P ex lo ops env H
  | some W => runLoud P ex lo ops (W env H) env H

/-- where the deferred calls of a loop's rounds are gathered -/
def loopStart (rnd : Option Nat) (marks : List Nat) (H : Heap) : Option (Nat × List Nat × Heap) :=
  match rnd with
  | none => some (H.next, H.next :: marks, H.push .dfr)
  | some l => match H.get l with | some (.loop _ _ _ _ _ _ _ d) => some (d, marks, H) | _ => none

noncomputable def stepX (P : Program) (ex : ExF) (cx : Ctx) (lo : Nat) (c : Code) (st : St) : Option (Ex × St) :=
  match c with
  | .skip => some (.normal, st)
  | .ret => some (.ret, st)
  | .exit id => some (.exit id, st)
  | .region id ops draw =>
    match (if draw then runD P ex cx.fn id lo ops st.env st.H else runOps P ex lo ops ops.toList st.env st.H) with
    | some (env, H) => some (.normal, ⟨env, st.marks, H⟩)
    | none => none
  | .seq a b => match ex cx lo a st with
    | some (.normal, st) => ex cx lo b st
    | r => r
  | .cond x a b => match evalO st.env x with
    | some (.bool t) => ex cx lo (if t then a else b) st
    | _ => none
  | .block id a => match ex cx lo a st with
    | some (.exit id', st) => some (if id' = id then .normal else .exit id', st)
    | r => r
  | .loop a => match ex cx lo a st with
    | some (.normal, st) => ex cx lo (.loop a) st
    | r => r
  | .rangeFunc f params assign body =>
    match evalO st.env f with
    | none => none
    | some fv =>
      match loopStart cx.rnd st.marks st.H with
      | none => none
      | some (d, marks, H) =>
        match (match fv with
          | .func g first cap => callA P ex lo g (first ++ [AV.yieldf H.next] ++ cap) (H.push (.loop .ready none cx.fn st.env params.toList assign body d))
          | _ => none : Option (AV × Heap)) with
        | some (_, H') => match H'.get H.next with
          | some (.loop st' pend _ _ _ _ _ _) =>
            if st' = .busy then none else
            match pend with
            | none => some (.normal, ⟨st.env, marks, H'.kill H.next⟩)
            | some .ret => some (.ret, ⟨st.env, marks, H'.kill H.next⟩)
            | some (.exit id) => some (.exit id, ⟨st.env, marks, H'.kill H.next⟩)
            | _ => none
          | _ => none
        | none => none
  | _ => none

/-- the interpreter, at a depth -/
noncomputable def exec (P : Program) (n : Nat) : ExF := Nat.rec (fun _ _ _ _ => none) (fun _ ih => stepX P ih) n

theorem exec_zero (P : Program) : exec P 0 = fun _ _ _ _ => none := rfl
theorem exec_succ (P : Program) (n : Nat) : exec P (n + 1) = stepX P (exec P n) := rfl

end Go.Ab
/-! The abstract interpreter is sound, 1: what it means that a world is as an abstract heap tells; values; loads and stores. Conditions: none. -/
set_option linter.unusedSimpArgs false
set_option linter.unusedVariables false
namespace Go.Ab
open Go Go.RowKit

/-! ### lists of values -/
theorem concL_eq (ι : Inj) : ∀ l : List AV, AV.concL ι l = l.map (AV.conc ι)
  | [] => rfl
  | v :: vs => by simp [AV.concL, concL_eq ι vs]
theorem rfL_iff : ∀ l : List AV, AV.rfL l = true ↔ ∀ v ∈ l, v.rf = true
  | [] => by simp [AV.rfL]
  | v :: vs => by simp [AV.rfL, rfL_iff vs]
theorem OKL_iff (w0 : World) (base n : Nat) : ∀ l : List AV, AV.OKL w0 base n l ↔ ∀ v ∈ l, v.OK w0 base n
  | [] => by simp [AV.OKL]
  | v :: vs => by simp [AV.OKL, OKL_iff w0 base n vs]

mutual
theorem OK.mono {w0 : World} {base n m : Nat} (h : n ≤ m) : ∀ v : AV, v.OK w0 base n → v.OK w0 base m
  | .bool _, _ | .int _ _, _ | .str _, _ | .nilp, _ | .nilf, _ | .nili, _ | .map none, _ => trivial
  | .ptr b _, k | .sl b _ _ _, k | .map (some b), k | .yieldf b, k => by simp only [AV.OK] at k ⊢; omega
  | .rptr _ _, k | .rsl none _ _ _, k | .rsl (some _) _ _ _, k => by simp only [AV.OK] at k ⊢; exact k
  | .func _ a b, k => by simp only [AV.OK] at k ⊢; exact ⟨OKL.mono h a k.1, OKL.mono h b k.2⟩
  | .iface _ v, k => by simp only [AV.OK] at k ⊢; exact OK.mono h v k
  | .agg l, k | .tup l, k => by simp only [AV.OK] at k ⊢; exact OKL.mono h l k
theorem OKL.mono {w0 : World} {base n m : Nat} (h : n ≤ m) : ∀ l : List AV, AV.OKL w0 base n l → AV.OKL w0 base m l
  | [], _ => trivial
  | v :: vs, k => by simp only [AV.OKL] at k ⊢; exact ⟨OK.mono h v k.1, OKL.mono h vs k.2⟩
end

mutual
theorem OK.rf {w0 : World} {base n : Nat} : ∀ v : AV, v.rf = true → v.OK w0 base n → v.OK w0 base 0
  | .bool _, _, _ | .int _ _, _, _ | .str _, _, _ | .nilp, _, _ | .nilf, _, _ | .nili, _, _ | .map none, _, _ => trivial
  | .ptr _ _, h, _ | .sl _ _ _ _, h, _ | .map (some _), h, _ | .yieldf _, h, _ => by simp [AV.rf] at h
  | .rptr _ _, _, k | .rsl none _ _ _, _, k | .rsl (some _) _ _ _, _, k => by simp only [AV.OK] at k ⊢; exact k
  | .func _ a b, h, k => by
    simp only [AV.rf, Bool.and_eq_true] at h; simp only [AV.OK] at k ⊢; exact ⟨OKL.rf a h.1 k.1, OKL.rf b h.2 k.2⟩
  | .iface _ v, h, k => by simp only [AV.rf] at h; simp only [AV.OK] at k ⊢; exact OK.rf v h k
  | .agg l, h, k | .tup l, h, k => by simp only [AV.rf] at h; simp only [AV.OK] at k ⊢; exact OKL.rf l h k
theorem OKL.rf {w0 : World} {base n : Nat} : ∀ l : List AV, AV.rfL l = true → AV.OKL w0 base n l → AV.OKL w0 base 0 l
  | [], _, _ => trivial
  | v :: vs, h, k => by
    simp only [AV.rfL, Bool.and_eq_true] at h; simp only [AV.OKL] at k ⊢; exact ⟨OK.rf v h.1 k.1, OKL.rf vs h.2 k.2⟩
end

mutual
/-- a value is the same behind a longer numbering -/
theorem conc_ext {w0 : World} {base n : Nat} {ι ι' : Inj} (h : ∀ b, b < n → ι' b = ι b) : ∀ v : AV, v.OK w0 base n → v.conc ι' = v.conc ι
  | .bool _, _ | .int _ _, _ | .str _, _ | .nilp, _ | .nilf, _ | .nili, _ | .map none, _ => rfl
  | .ptr b _, k => by simp only [AV.OK] at k; simp [AV.conc, h b k]
  | .sl b _ _ _, k => by simp only [AV.OK] at k; simp [AV.conc, h b k]
  | .map (some b), k => by simp only [AV.OK] at k; simp [AV.conc, h b k]
  | .yieldf b, k => by simp only [AV.OK] at k; simp [AV.conc, h b k]
  | .rptr _ _, _ | .rsl _ _ _ _, _ => rfl
  | .func _ a b, k => by simp only [AV.OK] at k; simp only [AV.conc, concL_ext h a k.1, concL_ext h b k.2]
  | .iface _ v, k => by simp only [AV.OK] at k; simp only [AV.conc, conc_ext h v k]
  | .agg l, k | .tup l, k => by simp only [AV.OK] at k; simp only [AV.conc, concL_ext h l k]
theorem concL_ext {w0 : World} {base n : Nat} {ι ι' : Inj} (h : ∀ b, b < n → ι' b = ι b) : ∀ l : List AV, AV.OKL w0 base n l → AV.concL ι' l = AV.concL ι l
  | [], _ => rfl
  | v :: vs, k => by simp only [AV.OKL] at k; simp only [AV.concL, conc_ext h v k.1, concL_ext h vs k.2]
end
theorem map_conc_ext [E : Env] {w0 : World} {base n : Nat} {ι ι' : Inj} (h : ∀ b, b < n → ι' b = ι b) {l : List AV} (k : ∀ v ∈ l, v.OK w0 base n) : l.map (AV.conc ι') = l.map (AV.conc ι) := by
  rw [← concL_eq, ← concL_eq]; exact concL_ext h l ((OKL_iff ..).2 k)

theorem leaf_oneCell {ι : Inj} {v : AV} (h : leafA v = true) : (v.conc ι).oneCell' = true := by
  cases v with
  | map b => cases b <;> rfl
  | agg _ => simp [leafA] at h
  | tup _ => simp [leafA] at h
  | _ => rfl
theorem cells_of_leaf {v : AV} (h : leafA v = true) : v.cells = [v] := by cases v <;> first | rfl | simp [leafA] at h
theorem conc_cells [E : Env] (ι : Inj) (v : AV) : (v.conc ι).cells.toList = v.cells.map (AV.conc ι) := by
  cases v with
  | map b => cases b <;> simp [AV.conc, Value.cells, AV.cells]
  | agg l => simp [AV.conc, Value.cells, AV.cells, concL_eq]
  | _ => simp [AV.conc, Value.cells, AV.cells]
theorem size_cells [E : Env] (ι : Inj) (v : AV) : (v.conc ι).cells.size = v.cells.length := by
  have := congrArg List.length (conc_cells ι v); simpa using this
theorem conc_cells' [E : Env] (ι : Inj) (v : AV) : (v.conc ι).cells = (v.cells.map (AV.conc ι)).toArray := by
  rw [← conc_cells]
theorem OK_cells [E : Env] {w0 : World} {base n : Nat} {v : AV} (h : v.OK w0 base n) : ∀ c ∈ v.cells, c.OK w0 base n := by
  cases v with
  | agg l => simp only [AV.OK] at h; exact (OKL_iff ..).1 h
  | _ => simpa [AV.cells] using h

theorem ofLeaf_conc (ι : Inj) {v : Value} {a : AV} (h : ofLeaf v = some a) : a.conc ι = v := by
  unfold ofLeaf at h
  split at h <;> first | (cases h; rfl) | (cases h)
theorem ofLeaf_OK {w0 : World} {base : Nat} {v : Value} {a : AV} (h : ofLeaf v = some a) : a.OK w0 base 0 := by
  unfold ofLeaf at h
  split at h <;> first | (cases h; simp [AV.OK]) | (cases h)
theorem ofLeaf_leaf {v : Value} {a : AV} (h : ofLeaf v = some a) : leafA a = true := by
  unfold ofLeaf at h
  split at h <;> first | (cases h; rfl) | (cases h)
theorem ofLeafs_conc [E : Env] (ι : Inj) : ∀ {vs : List Value} {l : List AV}, ofLeafs vs = some l → l.map (AV.conc ι) = vs
  | [], l, h => by cases h; rfl
  | v :: vs, l, h => by
    simp only [ofLeafs] at h
    split at h
    · rename_i a l' ha hl; cases h; simp [ofLeaf_conc ι ha, ofLeafs_conc ι hl]
    · cases h
theorem ofLeafs_OK [E : Env] {w0 : World} {base : Nat} : ∀ {vs : List Value} {l : List AV}, ofLeafs vs = some l → ∀ a ∈ l, a.OK w0 base 0
  | [], l, h => by cases h; simp
  | v :: vs, l, h => by
    simp only [ofLeafs] at h
    split at h
    · rename_i a l' ha hl; cases h
      intro x hx
      rcases List.mem_cons.1 hx with rfl | hx
      · exact ofLeaf_OK ha
      · exact ofLeafs_OK hl x hx
    · cases h
theorem ofVal_conc [E : Env] (ι : Inj) {v : Value} {a : AV} (h : ofVal v = some a) : a.conc ι = v := by
  cases v with
  | agg cs =>
    simp only [ofVal, Option.map_eq_some_iff] at h
    obtain ⟨l, hl, rfl⟩ := h
    simp [AV.conc, concL_eq, ofLeafs_conc ι hl]
  | _ => exact ofLeaf_conc ι h
theorem ofVal_OK [E : Env] {w0 : World} {base : Nat} {v : Value} {a : AV} (h : ofVal v = some a) : a.OK w0 base 0 := by
  cases v with
  | agg cs =>
    simp only [ofVal, Option.map_eq_some_iff] at h
    obtain ⟨l, hl, rfl⟩ := h
    simp only [AV.OK]; exact (OKL_iff ..).2 (ofLeafs_OK hl)
  | _ => (unfold ofVal at h; exact ofLeaf_OK h)

/-! ### the world that an abstract heap tells of -/
def BlkOK (w0 : World) (base n : Nat) : Blk → Prop
  | .cells _ c => ∀ v ∈ c, v.OK w0 base n
  | .map es _ => ∀ e ∈ es, e.1.OK w0 base n ∧ e.2.1.OK w0 base n
  | .iter _ _ => True
  | .loop _ _ _ tmps _ _ _ d => (∀ v ∈ tmps, v.OK w0 base n) ∧ d < n
  | .dfr => True

def mapEntries (ι : Inj) (es : List (AV × AV × Nat)) : Array MapEntry := (es.map fun e => ({ key := e.1.conc ι, val := e.2.1.conc ι, born := e.2.2 } : MapEntry)).toArray

def BlkRel (P : Program) (ι : Inj) (cap : Nat) (o : Option Obj) : Blk → Prop
  | .cells t cs => ∃ c : Array Value, o = some (.cells c t (0, 0)) ∧ (∃ rest, c.toList = cs.map (AV.conc ι) ++ rest) ∧ c.size = cap * P.cellsOf t
  | .map es clock => o = some (.map (mapEntries ι es) clock)
  | .iter s p => o = some (.stringIter s p)
  | .loop st pend fn tmps params assign body d =>
    o = some (.loop { state := st, pending := pend, fn, tmps := (tmps.map (AV.conc ι)).toArray, params := params.toArray, assign, body, defers := (ι d).1 })
  | .dfr => o = some (.deferred (some []))

def GlobOK [E : Env] (w0 : World) (base : Nat) : Prop := ∀ g v, E.glob g = some v → v.OK w0 base 0 ∧ ∀ ι, v.conc ι = .pointer (some ⟨g, 0, none⟩)
structure Sim [E : Env] (P : Program) (w0 : World) (base : Nat) (ι : Inj) (H : Heap) (w : World) : Prop where
  below : Below base w0 w
  hb : base ≤ w0.heap.size
  gl : GlobOK w0 base
  inj : ∀ b b' x x', H.get b = some x → H.get b' = some x' → (ι b).1 = (ι b').1 → b = b'
  lt : ∀ b x, H.get b = some x → b < H.next
  lo : ∀ b x, H.get b = some x → base ≤ (ι b).1
  ok : ∀ b x, H.get b = some x → BlkOK w0 base H.next x
  rel : ∀ b x, H.get b = some x → BlkRel P ι (ι b).2 w.heap[(ι b).1]? x

theorem BlkOK.mono [E : Env] {w0 : World} {base n m : Nat} (h : n ≤ m) {x : Blk} (k : BlkOK w0 base n x) : BlkOK w0 base m x := by
  cases x with
  | cells t c => exact fun v hv => OK.mono h v (k v hv)
  | map es c => exact fun e he => ⟨OK.mono h _ (k e he).1, OK.mono h _ (k e he).2⟩
  | loop st pend fn tmps params assign body d => exact ⟨fun v hv => OK.mono h v (k.1 v hv), Nat.lt_of_lt_of_le k.2 h⟩
  | _ => trivial
theorem BlkRel.ext [E : Env] {P : Program} {w0 : World} {base n : Nat} {ι ι' : Inj} (h : ∀ b, b < n → ι' b = ι b) {x : Blk} (k : BlkOK w0 base n x) {cap : Nat} {o : Option Obj}
    (r : BlkRel P ι cap o x) : BlkRel P ι' cap o x := by
  cases x with
  | cells t cs =>
    obtain ⟨c, ho, ⟨rest, hr⟩, hs⟩ := r
    exact ⟨c, ho, ⟨rest, by rw [hr, map_conc_ext h k]⟩, hs⟩
  | map es c =>
    simp only [BlkRel, mapEntries] at r ⊢
    rw [r]
    congr 2
    refine congrArg List.toArray (List.map_congr_left fun e he => ?_)
    rw [conc_ext h _ (k e he).1, conc_ext h _ (k e he).2]
  | iter s p => exact r
  | loop st pend fn tmps params assign body d =>
    simp only [BlkRel] at r ⊢
    rw [r, map_conc_ext h k.1, h d k.2]
  | dfr => exact r

/-- what a step does: the world goes on as the heap tells -/
structure Post [E : Env] (P : Program) (w0 : World) (base lo : Nat) (ι : Inj) (H : Heap) (w : World) (ι' : Inj) (H' : Heap) (w' : World) : Prop where
  sim : Sim P w0 base ι' H' w'
  ext : ∀ b, b < H.next → ι' b = ι b
  next : H.next ≤ H'.next
  keep : ∀ b, b < lo → H'.get b = H.get b
  alive : ∀ b x, b < H.next → H'.get b = some x → ∃ y, H.get b = some y
  size : w.heap.size ≤ w'.heap.size
  frame : ∀ r, r < w.heap.size → (∀ b x, H.get b = some x → lo ≤ b → (ι b).1 ≠ r) → w'.heap[r]? = w.heap[r]?
  newr : ∀ b x, H'.get b = some x → H.next ≤ b → w.heap.size ≤ (ι' b).1 ∨ ∃ b0 x0, H.get b0 = some x0 ∧ lo ≤ b0 ∧ (ι' b).1 = (ι b0).1

section
variable {P : Program} {w0 : World} {base lo : Nat} {ι ι1 ι2 : Inj} {H H1 H2 : Heap} {w w1 w2 : World}

theorem Post.refl [E : Env] (s : Sim P w0 base ι H w) : Post P w0 base lo ι H w ι H w :=
  ⟨s, fun _ _ => rfl, Nat.le_refl _, fun _ _ => rfl, fun b x _ h => ⟨x, h⟩, Nat.le_refl _, fun _ _ _ => rfl, fun b x h hb => absurd (s.lt b x h) (by omega)⟩

theorem Post.trans [E : Env] (a : Post P w0 base lo ι H w ι1 H1 w1) (b : Post P w0 base lo ι1 H1 w1 ι2 H2 w2) : Post P w0 base lo ι H w ι2 H2 w2 where
  sim := b.sim
  ext := fun c hc => (b.ext c (Nat.lt_of_lt_of_le hc a.next)).trans (a.ext c hc)
  next := Nat.le_trans a.next b.next
  keep := fun c hc => (b.keep c hc).trans (a.keep c hc)
  alive := fun c x hc h => by
    obtain ⟨y, hy⟩ := b.alive c x (Nat.lt_of_lt_of_le hc a.next) h
    exact a.alive c y hc hy
  size := Nat.le_trans a.size b.size
  frame := fun r hr hne => by
    refine (b.frame r (Nat.lt_of_lt_of_le hr a.size) fun c x hc hlo => ?_).trans (a.frame r hr hne)
    by_cases hn : c < H.next
    · obtain ⟨y, hy⟩ := a.alive c x hn hc
      rw [a.ext c hn]; exact hne c y hy hlo
    · rcases a.newr c x hc (by omega) with h | ⟨b0, x0, h0, hl0, he⟩
      · omega
      · rw [he]; exact hne b0 x0 h0 hl0
  newr := fun c x hc hn => by
    by_cases h1 : c < H1.next
    · obtain ⟨y, hy⟩ := b.alive c x h1 hc
      rw [b.ext c h1]
      exact a.newr c y hy hn
    · rcases b.newr c x hc (by omega) with h | ⟨b0, x0, h0, hl0, he⟩
      · exact .inl (Nat.le_trans a.size h)
      · by_cases h2 : b0 < H.next
        · obtain ⟨y, hy⟩ := a.alive b0 x0 h2 h0
          exact .inr ⟨b0, y, hy, hl0, he.trans (congrArg Prod.fst (a.ext b0 h2))⟩
        · rw [he]; exact a.newr b0 x0 h0 (by omega)

theorem Post.mono [E : Env] {lo' : Nat} (a : Post P w0 base lo ι H w ι1 H1 w1) (h : lo' ≤ lo) : Post P w0 base lo' ι H w ι1 H1 w1 :=
  { a with
    keep := fun c hc => a.keep c (by omega)
    frame := fun r hr hne => a.frame r hr fun b x hb hl => hne b x hb (by omega)
    newr := fun b x hb hn => (a.newr b x hb hn).imp id fun ⟨b0, x0, h0, hl, he⟩ => ⟨b0, x0, h0, by omega, he⟩ }

theorem Sim.blt [E : Env] (s : Sim P w0 base ι H w) {b : Nat} {x : Blk} (h : H.get b = some x) : (ι b).1 < w.heap.size := by
  have r := s.rel b x h
  have : ∃ o, w.heap[(ι b).1]? = some o := by
    cases x with
    | cells t cs => obtain ⟨c, ho, _⟩ := r; exact ⟨_, ho⟩
    | _ => exact ⟨_, r⟩
  obtain ⟨o, ho⟩ := this
  exact (Array.getElem?_eq_some_iff.1 ho).1

theorem Sim.drawn [E : Env] (s : Sim P w0 base ι H w) (n : Nat) : Sim P w0 base ι H { w with drawn := n } :=
  { s with below := ⟨s.below.os, s.below.tape, s.below.output, s.below.size, s.below.block⟩ }
theorem Post.drawn [E : Env] (a : Post P w0 base lo ι H w ι1 H1 w1) (n : Nat) : Post P w0 base lo ι H w ι1 H1 { w1 with drawn := n } :=
  { a with sim := a.sim.drawn n }
theorem Post.drawn0 [E : Env] {n : Nat} (a : Post P w0 base lo ι H { w with drawn := n } ι1 H1 w1) : Post P w0 base lo ι H w ι1 H1 w1 :=
  ⟨a.sim, a.ext, a.next, a.keep, a.alive, a.size, a.frame, a.newr⟩

/-- the numbering with one more block -/
def Inj.put (ι : Inj) (b r cap : Nat) : Inj := fun c => if c = b then (r, cap) else ι c
@[simp] theorem Inj.put_same (ι : Inj) (b r cap : Nat) : ι.put b r cap b = (r, cap) := by simp [Inj.put]
theorem Inj.put_ne (ι : Inj) {b c : Nat} (r cap : Nat) (h : c ≠ b) : ι.put b r cap c = ι c := by simp [Inj.put, h]
theorem Inj.put_lt [E : Env] (ι : Inj) {n c : Nat} (r cap : Nat) (h : c < n) : ι.put n r cap c = ι c := Inj.put_ne ι r cap (by omega)

/-- a new block is laid -/
theorem Post.alloc [E : Env] (s : Sim P w0 base ι H w) (x : Blk) (o : Obj) (cap : Nat) (hok : BlkOK w0 base H.next x) (hrel : BlkRel P ι cap (some o) x) (hlo : lo ≤ H.next) :
    Post P w0 base lo ι H w (ι.put H.next w.heap.size cap) (H.push x) (w.alloc o) := by
  have hext : ∀ b, b < H.next → ι.put H.next w.heap.size cap b = ι b := fun b h => Inj.put_lt ι _ _ h
  have hget : ∀ b y, (H.push x).get b = some y → (b = H.next ∧ y = x) ∨ (b < H.next ∧ H.get b = some y) := fun b y h => by
    rw [Heap.get_push] at h
    by_cases e : b = H.next
    · subst e; simp at h; exact .inl ⟨rfl, h.symm⟩
    · rw [if_neg e] at h; exact .inr ⟨s.lt b y h, h⟩
  have hsz : (w.alloc o).heap.size = w.heap.size + 1 := by simp
  refine ⟨⟨?_, s.hb, s.gl, ?_, ?_, ?_, ?_, ?_⟩, hext, by simp, ?_, ?_, by omega, ?_, ?_⟩
  · exact s.below.alloc (Nat.le_trans s.hb s.below.size) o
  · intro b b' y y' h h' e
    rcases hget b y h with ⟨rfl, rfl⟩ | ⟨hb, hy⟩ <;> rcases hget b' y' h' with ⟨rfl, rfl⟩ | ⟨hb', hy'⟩
    · rfl
    · rw [hext b' hb', Inj.put_same] at e; have := s.blt hy'; simp at e; omega
    · rw [hext b hb, Inj.put_same] at e; have := s.blt hy; simp at e; omega
    · rw [hext b hb, hext b' hb'] at e; exact s.inj b b' y y' hy hy' e
  · intro b y h
    rcases hget b y h with ⟨rfl, rfl⟩ | ⟨hb, hy⟩ <;> simp <;> omega
  · intro b y h
    rcases hget b y h with ⟨rfl, rfl⟩ | ⟨hb, hy⟩
    · simp; exact Nat.le_trans s.hb s.below.size
    · rw [hext b hb]; exact s.lo b y hy
  · intro b y h
    rcases hget b y h with ⟨rfl, rfl⟩ | ⟨hb, hy⟩
    · exact hok.mono (by simp)
    · exact (s.ok b y hy).mono (by simp)
  · intro b y h
    rcases hget b y h with ⟨rfl, rfl⟩ | ⟨hb, hy⟩
    · rw [Inj.put_same]
      rw [heap_alloc_new]
      exact BlkRel.ext hext hok hrel
    · rw [hext b hb, Below.heap_alloc w o _ (s.blt hy)]
      exact BlkRel.ext hext (s.ok b y hy) (s.rel b y hy)
  · intro b hb; rw [Heap.get_push, if_neg (by omega)]
  · intro b y hb h
    rcases hget b y h with ⟨rfl, rfl⟩ | ⟨_, hy⟩
    · omega
    · exact ⟨y, hy⟩
  · intro r hr _; exact Below.heap_alloc w o r hr
  · intro b y h hb
    rcases hget b y h with ⟨rfl, rfl⟩ | ⟨hb', hy⟩
    · exact .inl (by simp)
    · omega

/-- an object behind a block is put in place -/
theorem Post.put [E : Env] (s : Sim P w0 base ι H w) {b : Nat} {x : Blk} (hx : H.get b = some x) (y : Blk) (w1 : World) (hlo : lo ≤ b)
    (hw : w1.os = w.os ∧ w1.tape = w.tape ∧ w1.output = w.output ∧ w1.heap.size = w.heap.size) (hother : ∀ r, r ≠ (ι b).1 → w1.heap[r]? = w.heap[r]?)
    (hok : BlkOK w0 base H.next y) (hrel : BlkRel P ι (ι b).2 w1.heap[(ι b).1]? y) : Post P w0 base lo ι H w ι (H.set b y) w1 := by
  have hget : ∀ c z, (H.set b y).get c = some z → (c = b ∧ z = y) ∨ (c ≠ b ∧ H.get c = some z) := fun c z h => by
    rw [Heap.get_set] at h
    by_cases e : c = b
    · subst e; simp at h; exact .inl ⟨rfl, h.symm⟩
    · rw [if_neg e] at h; exact .inr ⟨e, h⟩
  have hlive : ∀ c z, (H.set b y).get c = some z → ∃ z', H.get c = some z' := fun c z h => by
    rcases hget c z h with ⟨rfl, _⟩ | ⟨_, h'⟩
    · exact ⟨x, hx⟩
    · exact ⟨z, h'⟩
  refine ⟨⟨?_, s.hb, s.gl, ?_, ?_, ?_, ?_, ?_⟩, fun _ _ => rfl, Nat.le_refl _, ?_, ?_, by omega, ?_, ?_⟩
  · refine s.below.trans ⟨hw.1, hw.2.1, hw.2.2.1, by omega, fun k hk => hother k ?_⟩
    have := s.lo b x hx; omega
  · intro c c' z z' h h' e
    obtain ⟨u, hu⟩ := hlive c z h
    obtain ⟨u', hu'⟩ := hlive c' z' h'
    exact s.inj c c' u u' hu hu' e
  · intro c z h; obtain ⟨u, hu⟩ := hlive c z h; exact s.lt c u hu
  · intro c z h; obtain ⟨u, hu⟩ := hlive c z h; exact s.lo c u hu
  · intro c z h
    rcases hget c z h with ⟨rfl, rfl⟩ | ⟨hne, hz⟩
    · exact hok
    · exact s.ok c z hz
  · intro c z h
    rcases hget c z h with ⟨rfl, rfl⟩ | ⟨hne, hz⟩
    · exact hrel
    · rw [hother _ (fun e => hne (s.inj c b z x hz hx e))]
      exact s.rel c z hz
  · intro c hc; rw [Heap.get_set, if_neg (by omega)]
  · intro c z hc h; exact hlive c z h
  · intro r hr hne; exact hother r fun e => hne b x hx hlo e.symm
  · intro c z h hc; obtain ⟨u, hu⟩ := hlive c z h; have := s.lt c u hu; omega

/-- blocks are forgotten -/
theorem Post.forget [E : Env] (s : Sim P w0 base ι H w) (H' : Heap) (hn : H.next ≤ H'.next) (hs : ∀ b x, H'.get b = some x → H.get b = some x) (hk : ∀ b, b < lo → H'.get b = H.get b) :
    Post P w0 base lo ι H w ι H' w where
  sim := { below := s.below, hb := s.hb, gl := s.gl, inj := fun b b' x x' h h' => s.inj b b' x x' (hs _ _ h) (hs _ _ h'), lt := fun b x h => Nat.lt_of_lt_of_le (s.lt b x (hs _ _ h)) hn,
           lo := fun b x h => s.lo b x (hs _ _ h), ok := fun b x h => (s.ok b x (hs _ _ h)).mono hn, rel := fun b x h => s.rel b x (hs _ _ h) }
  ext := fun _ _ => rfl
  next := hn
  keep := hk
  alive := fun b x _ h => ⟨x, hs b x h⟩
  size := Nat.le_refl _
  frame := fun _ _ _ => rfl
  newr := fun b x h hb => absurd (s.lt b x (hs _ _ h)) (by omega)

/-! ### loads -/
theorem add_lit (b o j : Nat) : (⟨b, o, none⟩ : Addr).add j = ⟨b, o + j, none⟩ := by
  by_cases h : j = 0 <;> simp [Addr.add, h]
theorem cellsAt_sound [E : Env] (s : Sim P w0 base ι H w) {n : Nat} {v : AV} {l : List AV} (h : cellsAt H n v = some l) (hv : v.OK w0 base H.next) :
    ∃ a, v.conc ι = .pointer (some a) ∧ l.length = n ∧ (∀ j c, l[j]? = some c → w.cell? (a.add j) = some (c.conc ι)) ∧ ∀ c ∈ l, c.OK w0 base H.next := by
  cases v with
  | ptr b o =>
    simp only [cellsAt] at h
    split at h
    · rename_i t c hb
      split at h
      · rename_i hle
        cases h
        obtain ⟨cur, ho, ⟨rest, hr⟩, hsz⟩ := s.rel b _ hb
        refine ⟨_, rfl, by simp; omega, fun j u hj => ?_, fun u hu => ?_⟩
        · rw [add_lit, cell_of_row w _ _ _ _ _ ho]
          rw [← Array.getElem?_toList, hr]
          have hlt : o + j < c.length ∧ c[o + j]? = some u := by
            rw [List.getElem?_take] at hj
            split at hj
            · rw [List.getElem?_drop] at hj
              exact ⟨(List.getElem?_eq_some_iff.1 hj).1, hj⟩
            · cases hj
          rw [List.getElem?_append_left (by simp; omega), List.getElem?_map, hlt.2]
          rfl
        · exact s.ok b _ hb u (List.mem_of_mem_drop (List.mem_of_mem_take hu))
      · cases h
    · cases h
  | rptr a cs =>
    simp only [cellsAt] at h
    split at h
    · cases h
      simp only [AV.OK] at hv
      refine ⟨a, rfl, by simp; omega, fun j c hj => ?_, fun c hc => ?_⟩
      · rw [List.getElem?_take] at hj
        split at hj
        · have hblk : (a.add j).block = a.block := by unfold Addr.add; split <;> rfl
          rw [s.below.cell (p := a.add j) (by rw [hblk]; exact hv.1)]
          exact hv.2.1 ι j c hj
        · cases hj
      · exact OK.mono (Nat.zero_le _) c ((OKL_iff ..).1 hv.2.2 c (List.mem_of_mem_take hc))
    · cases h
  | _ => simp [cellsAt] at h

theorem run_isAggA {t : TypeId} {b : Bool} (h : isAggA P t = some b) (w : World) : (isAgg t).run P w = .ok b w := by
  unfold isAggA at h
  unfold isAgg
  cases hu : P.underlying t with
  | none => simp [hu] at h
  | some d =>
    rw [hu] at h
    simp only [Sem.run_bind, run_underlying hu, Result.andThen]
    cases d <;> simp at h <;> subst h <;> rfl
theorem run_sizeA {t : TypeId} {n : Nat} (h : sizeA P t = some n) (w : World) : (sizeOf t).run P w = .ok n w := by
  unfold sizeA at h
  obtain ⟨i, hi, rfl⟩ := Option.map_eq_some_iff.1 h
  simp [sizeOf, typeInfo, hi]
theorem cellsOf_sizeA {t : TypeId} {n : Nat} (h : sizeA P t = some n) : P.cellsOf t = n := by
  unfold sizeA at h; unfold Program.cellsOf; rw [h]; rfl

theorem loadA_sound [E : Env] (s : Sim P w0 base ι H w) {t : TypeId} {v x : AV} (h : loadA P H t v = some x) (hv : v.OK w0 base H.next) :
    ∃ a, v.conc ι = .pointer (some a) ∧ (loadVar t a).run P w = .ok (x.conc ι) w ∧ x.OK w0 base H.next := by
  unfold loadA at h
  cases hA : isAggA P t with
  | none => simp [hA] at h
  | some b =>
    cases b with
    | true =>
      cases hS : sizeA P t with
      | none => simp [hA, hS] at h
      | some n =>
        simp only [hA, hS] at h
        obtain ⟨l, hl, rfl⟩ := Option.map_eq_some_iff.1 h
        obtain ⟨a, ha, hn, hc, hok⟩ := cellsAt_sound s hl hv
        refine ⟨a, ha, ?_, by simp only [AV.OK]; exact (OKL_iff ..).2 hok⟩
        have hld := run_loadCells_list (P := P) w a (l.map (AV.conc ι)) (fun j u hj => by
          rw [List.getElem?_map] at hj
          obtain ⟨c, hc', rfl⟩ := Option.map_eq_some_iff.1 hj
          exact hc j c hc')
        rw [List.length_map, hn] at hld
        simp [loadVar, run_isAggA hA, run_sizeA hS, hld, AV.conc, concL_eq]
    | false =>
      simp only [hA] at h
      split at h
      · rename_i y hl
        cases h
        obtain ⟨a, ha, hn, hc, hok⟩ := cellsAt_sound s hl hv
        refine ⟨a, ha, ?_, hok x (by simp)⟩
        have := hc 0 x rfl
        have ha0 : a.add 0 = a := by simp [Addr.add]
        rw [ha0] at this
        simp [loadVar, run_isAggA hA, load, Sem.run, this]
      · cases h

/-! ### stores -/
theorem setRange_eq : ∀ (vs c : List AV) (o : Nat), o + vs.length ≤ c.length → setRange c o vs = c.take o ++ vs ++ c.drop (o + vs.length)
  | [], c, o, _ => by simp [setRange]
  | v :: vs, c, o, h => by
    simp only [List.length_cons] at h
    simp only [setRange]
    rw [setRange_eq vs (c.set o v) (o + 1) (by simp; omega)]
    have h1 : (c.set o v).take (o + 1) = c.take o ++ [v] := by
      rw [List.take_set, List.set_eq_take_append_cons_drop]
      simp only [List.length_take]
      rw [if_pos (by omega)]
      simp [List.take_take]
    have h2 : (c.set o v).drop (o + 1 + vs.length) = c.drop (o + (vs.length + 1)) := by
      rw [List.drop_set_of_lt (by omega)]
      congr 1
      omega
    rw [h1, h2]
    simp
theorem setRange_length (c vs : List AV) (o : Nat) : (setRange c o vs).length = c.length := by
  induction vs generalizing c o with
  | nil => rfl
  | cons v vs ih => simp [setRange, ih]

theorem heap_setRow (w : World) (g : Nat) (cur cs : Array Value) (t : TypeId) (h : w.heap[g]? = some (.cells cur t (0, 0))) : (w.setRow g cs).heap[g]? = some (.cells cs t (0, 0)) := setRow_heap w g cur cs t _ h

theorem storeCellsA_sound [E : Env] (s : Sim P w0 base ι H w) {v : AV} {vs : List AV} {H' : Heap} (h : storeCellsA lo H v vs = some H') (hok : ∀ c ∈ vs, c.OK w0 base H.next) :
    ∃ a w', v.conc ι = .pointer (some a) ∧ (storeCells a (vs.map (AV.conc ι))).run P w = .ok () w' ∧ Post P w0 base lo ι H w ι H' w' := by
  unfold storeCellsA at h
  split at h
  · rename_i b o
    split at h
    · rename_i t c hb
      split at h
      · rename_i hc
        cases h
        simp only [Bool.and_eq_true, decide_eq_true_eq] at hc
        obtain ⟨⟨hlo, hleaf⟩, hle⟩ := hc
        obtain ⟨cur, ho, ⟨rest, hr⟩, hsz⟩ := s.rel b _ hb
        have hcur : c.length ≤ cur.size := by
          have := congrArg List.length hr
          simp at this; omega
        have hst := run_storeCells_at P (ι b).1 o t (vs.map (AV.conc ι)) 0 cur w ho (by simp; omega) (fun u hu => by
          obtain ⟨x, hx, rfl⟩ := List.mem_map.1 hu
          exact leaf_oneCell (by simpa [leafs] using (List.all_eq_true.1 hleaf) x hx))
        refine ⟨_, _, rfl, hst, ?_⟩
        have hsr := setRange_eq vs c o hle
        refine Post.put s hb _ _ hlo ⟨rfl, rfl, rfl, by simp⟩ (fun r hr' => setRow_other w _ r _ hr') ?_ ?_
        · intro x hx
          rw [hsr] at hx
          simp only [List.mem_append] at hx
          rcases hx with (hx | hx) | hx
          · exact s.ok b _ hb x (List.mem_of_mem_take hx)
          · exact hok x hx
          · exact s.ok b _ hb x (List.mem_of_mem_drop hx)
        · refine ⟨_, heap_setRow w _ _ _ t ho, ⟨rest, ?_⟩, ?_⟩
          · simp only [Nat.add_zero, List.length_map]
            rw [hsr, hr]
            simp only [List.map_append, List.map_take, List.map_drop]
            rw [List.take_append_of_le_length (by simp; omega), List.drop_append_of_le_length (by simp; omega)]
            simp
          · simp only [Nat.add_zero, List.length_map, List.size_toArray, List.length_append, List.length_take, List.length_drop, Array.length_toList]
            omega
      · cases h
    · cases h
  · cases h
end
end Go.Ab
/-! The abstract interpreter is sound, 2: operations on values alone. Conditions: none. -/
set_option linter.unusedSimpArgs false
set_option linter.unusedVariables false
namespace Go.Ab
open Go Go.RowKit
section
variable {P : Program} {w0 : World} {base lo : Nat} {ι ι1 ι2 : Inj} {H H1 H2 : Heap} {w w1 w2 : World}

/-- a whole number, a bool or a string -/
def scal : AV → Bool
  | .bool _ | .int _ _ | .str _ => true
  | _ => false
theorem scal_OK {v : AV} {n : Nat} (h : scal v = true) : v.OK w0 base n := by cases v <;> first | trivial | simp [scal] at h
theorem scal_rf {v : AV} (h : scal v = true) : v.rf = true := by cases v <;> first | rfl | simp [scal] at h

theorem binIntA_sound {op : BinOp} {k : IntKind} {a b : Int} {v : AV} (h : binIntA op k a b = some v) (t : TypeId) (hop : op ≠ .shl ∧ op ≠ .shr) :
    (binOp op t (.int k a) (.int k b)).run P w = .ok (v.conc ι) w ∧ leafA v = true ∧ scal v = true := by
  cases op <;> simp only [binIntA] at h <;> (try split at h) <;> first
    | (cases h; done)
    | (cases h
       refine ⟨?_, rfl, rfl⟩
       first
         | (simp [binOp, Op.intArith, Op.intBits, Op.intCmp, AV.conc]; done)
         | (rename_i hb; simp [binOp, Op.intDiv, hb, AV.conc]; done))

theorem shiftA_sound {op : BinOp} {k k' : IntKind} {a b : Int} {v : AV} (h : shiftA op k a b = some v) :
    (Op.shift op k a k' b).run P w = .ok (v.conc ι) w ∧ leafA v = true ∧ scal v = true := by
  unfold shiftA at h
  split at h
  · cases h
  · rename_i hb
    cases op <;> simp only [] at h <;> first
      | (cases h; done)
      | (cases h; exact ⟨by simp [Op.shift, hb, AV.conc], rfl, rfl⟩)

theorem binStrA_sound {op : BinOp} {a b : ByteArray} {v : AV} (h : binStrA op a b = some v) :
    (Op.stringOp op a b).run P w = .ok (v.conc ι) w ∧ leafA v = true ∧ scal v = true := by
  cases op <;> simp only [binStrA] at h <;> (try split at h) <;> first
    | (cases h; done)
    | (cases h
       refine ⟨?_, rfl, rfl⟩
       first
         | (simp [Op.stringOp, ByteArray.toList_eq, AV.conc]; done)
         | (rename_i hs
            have hs' : ¬ (9223372036854775807 < ((a.size : Int) + (b.size : Int))) := by omega
            simp [Op.stringOp, hs', AV.conc]; done))

theorem eqLeafA_sound {t : TypeId} {x y : AV} {r : Bool} (h : eqLeafA x y = some r) (d : Nat) (hm : keyFits P t x = true) :
    (Op.equalIn (d + 1) t (x.conc ι) (y.conc ι)).run P w = .ok r w := by
  unfold keyFits at hm
  split at hm <;> (try (cases hm; done))
  · rename_i k n hu
    cases y <;> simp only [eqLeafA] at h <;> try (cases h; done)
    split at h
    · rename_i hk; subst hk; cases h; exact run_equalIn_int w d t _ _ _ _ hu
    · cases h
  · rename_i s hu
    cases y <;> simp only [eqLeafA] at h <;> try (cases h; done)
    cases h
    rw [← ByteArray.toList_eq, ← ByteArray.toList_eq]
    exact run_equalIn_string w d t _ _ hu
  · rename_i b hu
    cases y <;> simp only [eqLeafA] at h <;> try (cases h; done)
    cases h; exact run_equalIn_bool' w d t _ _ hu

theorem keyFits_leaf {t : TypeId} {x : AV} (hm : keyFits P t x = true) : isAggA P t = some false ∧ leafA x = true := by
  unfold keyFits at hm
  split at hm <;> (try (cases hm; done)) <;> (rename_i hu; simp [isAggA, hu, leafA])

theorem eqFlat_sound [E : Env] (d : Nat) (xs0 ys0 : List AV) : ∀ (fs : List Field) (i : Nat) (xs ys : List AV) (r : Bool), eqFlat P fs i xs ys = some r →
    xs0.drop i = xs → ys0.drop i = ys → (Op.eqFields (d + 1) (xs0.map (AV.conc ι)).toArray (ys0.map (AV.conc ι)).toArray fs).run P w = .ok r w
  | [], i, xs, ys, r, h, hx, hy => by
    cases xs <;> cases ys <;> simp only [eqFlat] at h <;> cases h
    simp [Op.eqFields]
  | f :: fs, i, [], _, r, h, hx, hy => by simp [eqFlat] at h
  | f :: fs, i, _ :: _, [], r, h, hx, hy => by simp [eqFlat] at h
  | f :: fs, i, x :: xs, y :: ys, r, h, hx, hy => by
    simp only [eqFlat] at h
    split at h
    · rename_i hc
      simp only [Bool.and_eq_true, beq_iff_eq, bne_iff_ne] at hc
      obtain ⟨⟨ho, hn⟩, hk⟩ := hc
      split at h
      · rename_i a b ha hb
        cases h
        have hx0 : xs0[i]? = some x := by have := congrArg List.head? hx; simpa using this
        have hy0 : ys0[i]? = some y := by have := congrArg List.head? hy; simpa using this
        have hp : ∀ (zs : List AV) (z : AV), zs[i]? = some z → (part f.type (zs.map (AV.conc ι)).toArray f.offset).run P w = .ok (z.conc ι) w := by
          intro zs z hz
          simp [part, run_isAggA (keyFits_leaf hk).1, ho, hz]
        have ih := eqFlat_sound d xs0 ys0 fs (i + 1) xs ys b hb (by rw [← List.drop_drop, hx]; rfl) (by rw [← List.drop_drop, hy]; rfl)
        rw [Op.eqFields]
        simp only [if_pos hn, Sem.run_bind, hp xs0 x hx0, hp ys0 y hy0, eqLeafA_sound ha d hk, Result.andThen_ok]
        cases a
        · simp
        · simpa using ih
      · cases h
    · cases h

set_option maxHeartbeats 2000000 in
theorem eqA_sound [E : Env] {t : TypeId} {x y : AV} {r : Bool} (h : eqA P t x y = some r) (X Y : Operand) :
    (eqGuard .eql t X Y (x.conc ι) (y.conc ι)).run P w = .ok () w ∧ (eqGuard .neq t X Y (x.conc ι) (y.conc ι)).run P w = .ok () w ∧
      (Op.equal t (x.conc ι) (y.conc ι)).run P w = .ok r w ∧ (∀ k n, x ≠ .int k n) ∧ (∀ s, x ≠ .str s) := by
  have e1 : Op.maxDepth = 9999 + 1 := rfl
  cases hu : P.underlying t with
  | none => unfold eqA at h; simp [hu] at h
  | some td =>
    cases td with
    | struct fs =>
      cases x <;> cases y <;> simp only [eqA, hu] at h <;> try (cases h; done)
      rename_i xs ys
      split at h
      · rename_i hc
        simp only [Bool.and_eq_true, Bool.not_eq_true'] at hc
        have hf : P.fieldsOf t = fs := by simp [Program.fieldsOf, hu]
        have hs := eqFlat_sound (P := P) (ι := ι) (w := w) 9998 xs ys fs.toList 0 xs ys r h rfl rfl
        refine ⟨?_, ?_, ?_, by simp, by simp⟩
        · exact run_eqGuard_agg w _ t X Y _ _ hc.2
        · exact run_eqGuard_agg w _ t X Y _ _ hc.2
        · unfold Op.equal; rw [e1]
          simp only [AV.conc, concL_eq]
          rw [run_equalIn_struct (P := P) w 9999 t _ _ (by rw [hf]; exact hu) hc.1, hf]
          exact hs
      · cases h
    | bool =>
      cases x <;> cases y <;> simp only [eqA, hu] at h <;> try (cases h; done)
      cases h
      refine ⟨rfl, rfl, ?_, by simp, by simp⟩
      unfold Op.equal; rw [e1]
      exact run_equalIn_bool' w 9999 t _ _ hu
    | pointer e =>
      cases x <;> cases y <;> simp only [eqA, hu] at h <;> (try (cases h; done)) <;>
        (cases h; refine ⟨rfl, rfl, ?_, by simp, by simp⟩; unfold Op.equal; rw [e1]; clear e1; generalize 9999 = d; simp [Op.equalIn, run_underlying hu, AV.conc])
    | slice e =>
      cases x with
      | rsl a c s l =>
        cases y with
        | rsl b c' s' l' =>
          cases a <;> cases b <;> simp only [eqA, hu] at h <;> (try (cases h; done)) <;>
            (cases h; refine ⟨rfl, rfl, ?_, by simp, by simp⟩; unfold Op.equal; rw [e1]; clear e1; generalize 9999 = d; simp [Op.equalIn, run_underlying hu, AV.conc])
        | sl _ _ _ _ =>
          cases a <;> simp only [eqA, hu] at h <;> (try (cases h; done)) <;>
            (cases h; refine ⟨rfl, rfl, ?_, by simp, by simp⟩; unfold Op.equal; rw [e1]; clear e1; generalize 9999 = d; simp [Op.equalIn, run_underlying hu, AV.conc])
        | _ => cases a <;> simp [eqA, hu] at h
      | sl _ _ _ _ =>
        cases y with
        | rsl b c' s' l' =>
          cases b <;> simp only [eqA, hu] at h <;> (try (cases h; done)) <;>
            (cases h; refine ⟨rfl, rfl, ?_, by simp, by simp⟩; unfold Op.equal; rw [e1]; clear e1; generalize 9999 = d; simp [Op.equalIn, run_underlying hu, AV.conc])
        | _ => simp [eqA, hu] at h
      | _ => cases y <;> simp [eqA, hu] at h
    | map k e =>
      cases x with
      | map a =>
        cases y with
        | map b =>
          cases a <;> cases b <;> simp only [eqA, hu] at h <;> (try (cases h; done)) <;>
            (cases h; refine ⟨rfl, rfl, ?_, by simp, by simp⟩; unfold Op.equal; rw [e1]; clear e1; generalize 9999 = d; simp [Op.equalIn, run_underlying hu, AV.conc])
        | _ => cases a <;> simp [eqA, hu] at h
      | _ => cases y <;> simp [eqA, hu] at h
    | func a b c =>
      cases x <;> cases y <;> simp only [eqA, hu] at h <;> (try (cases h; done)) <;>
        (cases h; refine ⟨rfl, rfl, ?_, by simp, by simp⟩; unfold Op.equal; rw [e1]; clear e1; generalize 9999 = d; simp [Op.equalIn, run_underlying hu, AV.conc])
    | _ => cases x <;> cases y <;> simp [eqA, hu] at h

set_option maxHeartbeats 2000000 in
theorem binA_sound [E : Env] {op : BinOp} {t : TypeId} {x y v : AV} (h : binA P op t x y = some v) (X Y : Operand) :
    (do eqGuard op t X Y (x.conc ι) (y.conc ι); binOp op t (x.conc ι) (y.conc ι) : Sem Value).run P w = .ok (v.conc ι) w ∧ leafA v = true ∧ scal v = true := by
  by_cases hxi : ∃ k a, x = .int k a
  · obtain ⟨k, a, rfl⟩ := hxi
    have hg : eqGuard op t X Y ((AV.int k a).conc ι) (y.conc ι) = pure () := eqGuard_at_int ..
    rw [hg]
    cases y with
    | int k' b =>
      by_cases h1 : op = .shl
      · subst h1; simp only [binA] at h
        have := shiftA_sound (P := P) (ι := ι) (w := w) (k' := k') h
        simpa [AV.conc, binOp] using this
      · by_cases h2 : op = .shr
        · subst h2; simp only [binA] at h
          have := shiftA_sound (P := P) (ι := ι) (w := w) (k' := k') h
          simpa [AV.conc, binOp] using this
        · have h' : (if k = k' then binIntA op k a b else none) = some v := by
            cases op <;> first | exact absurd rfl h1 | exact absurd rfl h2 | exact h
          split at h'
          · rename_i hk; subst hk
            have := binIntA_sound (P := P) (ι := ι) (w := w) h' t ⟨h1, h2⟩
            simpa [AV.conc] using this
          · cases h'
    | _ =>
      exfalso
      cases op <;> simp only [binA] at h <;> (try (cases h; done)) <;>
        (obtain ⟨r, hr, _⟩ := Option.map_eq_some_iff.1 h
         exact (eqA_sound (P := P) (ι := ι) (w := w) hr X Y).2.2.2.1 _ _ rfl)
  · by_cases hxs : ∃ s, x = .str s
    · obtain ⟨s, rfl⟩ := hxs
      have hg : eqGuard op t X Y ((AV.str s).conc ι) (y.conc ι) = pure () := eqGuard_at_string ..
      rw [hg]
      cases y with
      | str s' =>
        have h' : binStrA op s s' = some v := by cases op <;> first | exact h | (simp [binA, binStrA] at h)
        have := binStrA_sound (P := P) (ι := ι) (w := w) h'
        have e : binOp op t (.string s) (.string s') = Op.stringOp op s s' := by cases op <;> rfl
        simpa [AV.conc, e] using this
      | _ =>
        exfalso
        cases op <;> simp only [binA] at h <;> (try (cases h; done)) <;>
          (obtain ⟨r, hr, _⟩ := Option.map_eq_some_iff.1 h
           exact (eqA_sound (P := P) (ι := ι) (w := w) hr X Y).2.2.2.2 _ rfl)
    · cases op with
      | eql =>
        have h' : (eqA P t x y).map AV.bool = some v := by
          cases x <;> first | exact absurd ⟨_, _, rfl⟩ hxi | exact absurd ⟨_, rfl⟩ hxs | exact h
        obtain ⟨r, hr, rfl⟩ := Option.map_eq_some_iff.1 h'
        have hs := eqA_sound (P := P) (ι := ι) (w := w) hr X Y
        have e : binOp .eql t (x.conc ι) (y.conc ι) = (do pure (.bool (← Op.equal t (x.conc ι) (y.conc ι)))) := by
          cases x with
          | int k a => exact absurd ⟨_, _, rfl⟩ hxi
          | str s => exact absurd ⟨_, rfl⟩ hxs
          | map b => cases b <;> rfl
          | _ => rfl
        refine ⟨?_, rfl, rfl⟩
        simp [hs.1, e, hs.2.2.1, AV.conc]
      | neq =>
        have h' : ((eqA P t x y).map fun b => AV.bool !b) = some v := by
          cases x <;> first | exact absurd ⟨_, _, rfl⟩ hxi | exact absurd ⟨_, rfl⟩ hxs | exact h
        obtain ⟨r, hr, rfl⟩ := Option.map_eq_some_iff.1 h'
        have hs := eqA_sound (P := P) (ι := ι) (w := w) hr X Y
        have e : binOp .neq t (x.conc ι) (y.conc ι) = (do pure (.bool (!(← Op.equal t (x.conc ι) (y.conc ι))))) := by
          cases x with
          | int k a => exact absurd ⟨_, _, rfl⟩ hxi
          | str s => exact absurd ⟨_, rfl⟩ hxs
          | map b => cases b <;> rfl
          | _ => rfl
        refine ⟨?_, rfl, rfl⟩
        simp [hs.2.1, e, hs.2.2.1, AV.conc]
      | _ =>
        exfalso
        cases x <;> first
          | exact hxi ⟨_, _, rfl⟩
          | exact hxs ⟨_, rfl⟩
          | (cases y <;> simp [binA] at h)

theorem unA_sound {op : UnOp} {x v : AV} (h : unA op x = some v) : (Op.unary op (x.conc ι)).run P w = .ok (v.conc ι) w ∧ leafA v = true ∧ scal v = true := by
  unfold unA at h
  split at h
  · cases h; exact ⟨by simp [Op.unary, Op.intArith, AV.conc], rfl, rfl⟩
  · cases h; exact ⟨by simp [Op.unary, Op.intBits, AV.conc], rfl, rfl⟩
  · cases h; exact ⟨by simp [Op.unary, AV.conc], rfl, rfl⟩
  · cases h
end
end Go.Ab
/-! The abstract interpreter is sound, 3: aggregates, slices, addresses, append, copy. Conditions: none. -/
set_option linter.unusedSimpArgs false
set_option linter.unusedVariables false
namespace Go.Ab
open Go Go.RowKit
section
variable {P : Program} {w0 : World} {base lo : Nat} {ι ι1 ι2 : Inj} {H H1 H2 : Heap} {w w1 w2 : World}

/-! ### zero values, parts -/
theorem run_zeroA [E : Env] {t : TypeId} {z : AV} (h : zeroA P t = some z) (ι : Inj) (w : World) : (zeroValue t).run P w = .ok (z.conc ι) w := by
  unfold zeroA at h
  cases hi : P.info? t with
  | none => simp [hi] at h
  | some i =>
    cases hz : i.zero with
    | none => simp [hi, hz] at h
    | some v =>
      simp only [hi, hz] at h
      simp [zeroValue, typeInfo, hi, hz, ofVal_conc ι h]
theorem OK_zeroA [E : Env] {t : TypeId} {z : AV} (h : zeroA P t = some z) : z.OK w0 base 0 := by
  unfold zeroA at h
  cases hi : P.info? t with
  | none => simp [hi] at h
  | some i =>
    cases hz : i.zero with
    | none => simp [hi, hz] at h
    | some v => simp only [hi, hz] at h; exact ofVal_OK h

theorem foldl_set : ∀ (vs : List Value) (cs : List Value) (off k : Nat), off + k + vs.length ≤ cs.length →
    ((vs.zipIdx k).foldl (fun (c : Array Value) (p : Value × Nat) => c.setIfInBounds (off + p.2) p.1) cs.toArray).toList = cs.take (off + k) ++ vs ++ cs.drop (off + k + vs.length)
  | [], cs, off, k, _ => by simp
  | v :: vs, cs, off, k, h => by
    simp only [List.length_cons] at h
    simp only [List.zipIdx_cons, List.foldl_cons, List.setIfInBounds_toArray]
    rw [foldl_set vs (cs.set (off + k) v) off (k + 1) (by simp; omega)]
    have h1 : (cs.set (off + k) v).take (off + (k + 1)) = cs.take (off + k) ++ [v] := by
      rw [← Nat.add_assoc, List.take_set, List.set_eq_take_append_cons_drop]
      simp only [List.length_take]
      rw [if_pos (by omega)]
      simp [List.take_take]
    have h2 : (cs.set (off + k) v).drop (off + (k + 1) + vs.length) = cs.drop (off + k + (vs.length + 1)) := by
      rw [List.drop_set_of_lt (by omega)]
      congr 1
      omega
    rw [h1, h2]
    simp

theorem fillA_sound [E : Env] (place : Nat → Option (Nat × Nat)) : ∀ (parts : List (Nat × AV)) (cells l : List AV), fillA place cells parts = some l →
    Instr.fill place (cells.map (AV.conc ι)).toArray (parts.map fun p => (p.1, p.2.conc ι)) = some (l.map (AV.conc ι)).toArray
  | [], cells, l, h => by simp only [fillA] at h; cases h; simp [Instr.fill]
  | (i, v) :: rest, cells, l, h => by
    simp only [fillA] at h
    cases hp : place i with
    | none => simp [hp] at h
    | some q =>
      obtain ⟨off, size⟩ := q
      simp only [hp] at h
      split at h
      · rename_i hc
        simp only [Bool.and_eq_true, decide_eq_true_eq] at hc
        obtain ⟨hs, hle⟩ := hc
        have ih := fillA_sound place rest _ l h
        have hr := setRange_eq v.cells cells off (by omega)
        have hsz := size_cells ι v
        simp only [Instr.fill, List.map_cons, hp]
        have hcond : (decide ((v.conc ι).cells.size ≠ size) || decide (off + (v.conc ι).cells.size > (cells.map (AV.conc ι)).toArray.size)) = false := by
          simp; omega
        rw [if_neg (by simpa using hcond)]
        rw [← ih]
        congr 1
        apply Array.ext'
        rw [conc_cells']
        have hf := foldl_set (v.cells.map (AV.conc ι)) (cells.map (AV.conc ι)) off 0 (by simp; omega)
        simp only [Nat.add_zero, List.length_map] at hf
        rw [hr]
        simp only [List.map_append, List.map_take, List.map_drop]
        rw [← hf]
        simp
      · cases h

theorem mem_setRange {x : AV} : ∀ (vs c : List AV) (o : Nat), x ∈ setRange c o vs → x ∈ c ∨ x ∈ vs
  | [], c, o, h => .inl h
  | v :: vs, c, o, h => by
    rcases mem_setRange vs (c.set o v) (o + 1) h with h | h
    · rcases List.mem_or_eq_of_mem_set h with h | h
      · exact .inl h
      · exact .inr (by simp [h])
    · exact .inr (by simp [h])
theorem fillA_mem [E : Env] (place : Nat → Option (Nat × Nat)) : ∀ (parts : List (Nat × AV)) (cells l : List AV), fillA place cells parts = some l →
    l.length = cells.length ∧ ∀ x ∈ l, x ∈ cells ∨ ∃ p ∈ parts, x ∈ p.2.cells
  | [], cells, l, h => by simp only [fillA] at h; cases h; exact ⟨rfl, fun x hx => .inl hx⟩
  | (i, v) :: rest, cells, l, h => by
    simp only [fillA] at h
    split at h
    · cases h
    · split at h
      · obtain ⟨hl, hm⟩ := fillA_mem place rest _ l h
        refine ⟨by rw [hl, setRange_length], fun x hx => ?_⟩
        rcases hm x hx with h' | ⟨p, hp, h'⟩
        · rcases mem_setRange _ _ _ h' with h' | h'
          · exact .inl h'
          · exact .inr ⟨(i, v), by simp, h'⟩
        · exact .inr ⟨p, by simp [hp], h'⟩
      · cases h

theorem placesA_sound [E : Env] : ∀ (fs : List Field) (ps : List (Nat × Nat)), placesA P fs = some ps →
    (fs.mapM fun f => do pure (f.offset, ← sizeOf f.type) : Sem (List (Nat × Nat))).run P w = .ok ps w
  | [], ps, h => by simp only [placesA] at h; cases h; simp
  | f :: fs, ps, h => by
    simp only [placesA] at h
    split at h
    · rename_i s l hs hl
      cases h
      have ih := placesA_sound fs l hl
      simp only [List.mapM_cons, Sem.run_bind, run_sizeA hs, Result.andThen_ok, bind_assoc, pure_bind, ih]
      simp
    · cases h

theorem buildA_sound [E : Env] {t : TypeId} {parts : List (Nat × AV)} {v : AV} (h : buildA P t parts = some v) (hok : ∀ p ∈ parts, p.2.OK w0 base H.next) :
    (Instr.build t (parts.map fun p => (p.1, p.2.conc ι)).toArray).run P w = .ok (v.conc ι) w ∧ v.OK w0 base H.next := by
  unfold buildA at h
  cases hz : zeroA P t with
  | none => simp [hz] at h
  | some z =>
    have hmem : ∀ (place : Nat → Option (Nat × Nat)) (l : List AV), fillA place z.cells parts = some l → (AV.agg l).OK w0 base H.next := fun place l hl => by
      simp only [AV.OK]
      refine (OKL_iff ..).2 fun x hx => ?_
      rcases (fillA_mem place parts z.cells l hl).2 x hx with h' | ⟨p, hp, h'⟩
      · exact OK.mono (Nat.zero_le _) x (OK_cells (OK_zeroA hz) x h')
      · exact OK_cells (hok p hp) x h'
    cases hu : P.underlying t with
    | none => simp [hz, hu] at h
    | some d =>
      cases d <;> simp only [hz, hu] at h <;> try (cases h; done)
      · rename_i len e
        cases hs : sizeA P e with
        | none => simp [hs] at h
        | some s =>
          simp only [hs] at h
          obtain ⟨l, hl, rfl⟩ := Option.map_eq_some_iff.1 h
          refine ⟨?_, hmem _ l hl⟩
          have hf := fillA_sound (ι := ι) _ parts z.cells l hl
          rw [← conc_cells'] at hf
          simp [Instr.build, run_zeroA hz ι, run_underlying hu, run_sizeA hs, hf, AV.conc, concL_eq]
      · rename_i fs
        cases hp : placesA P fs.toList with
        | none => simp [hp] at h
        | some ps =>
          simp only [hp] at h
          obtain ⟨l, hl, rfl⟩ := Option.map_eq_some_iff.1 h
          refine ⟨?_, hmem _ l hl⟩
          have hf := fillA_sound (ι := ι) _ parts z.cells l hl
          rw [← conc_cells'] at hf
          have hpl := placesA_sound (P := P) (w := w) fs.toList ps hp
          have hma : (fs.mapM fun f => do pure (f.offset, ← sizeOf f.type) : Sem (Array (Nat × Nat))).run P w = .ok ps.toArray w := by
            rw [Array.mapM_eq_mapM_toList, Sem.run_map, hpl]; rfl
          simp only [Instr.build, Sem.run_bind, run_zeroA hz ι, run_underlying hu, Result.andThen_ok, hma]
          have e : (fun i : Nat => ps.toArray[i]?) = (fun i : Nat => ps[i]?) := by funext i; simp
          simp only [e, hf]
          simp [AV.conc, concL_eq]

theorem zerosA_eq (z : List AV) : ∀ n : Nat, ((Array.range (n * z.length)).map fun i => ((z.map (AV.conc ι)).toArray)[i % (z.map (AV.conc ι)).toArray.size]!) = ((zerosA z n).map (AV.conc ι)).toArray := by
  intro n
  apply Array.ext'
  simp only [Array.toList_map, Array.toList_range, List.size_toArray, List.length_map]
  induction n with
  | zero => simp [zerosA]
  | succ n ih =>
    rw [Nat.succ_mul, Nat.add_comm, List.range_add, List.map_append]
    simp only [zerosA, List.map_append]
    congr 1
    · apply List.ext_getElem?
      intro i
      by_cases hi : i < z.length
      · simp [hi, Nat.mod_eq_of_lt hi]
      · simp [hi]
    · rw [← ih]
      simp only [List.map_map]
      apply List.map_congr_left
      intro i _
      simp
theorem mem_zerosA {x : AV} {z : List AV} : ∀ n, x ∈ zerosA z n → x ∈ z
  | 0, h => by simp [zerosA] at h
  | n + 1, h => by simp only [zerosA, List.mem_append] at h; exact h.elim id (mem_zerosA n)
theorem length_zerosA (z : List AV) : ∀ n, (zerosA z n).length = n * z.length
  | 0 => by simp [zerosA]
  | n + 1 => by simp [zerosA, length_zerosA z n, Nat.succ_mul, Nat.add_comm]

theorem buildSliceA_sound [E : Env] (s : Sim P w0 base ι H w) {t : TypeId} {len : Nat} {parts : List (Nat × AV)} {v : AV} {H' : Heap} (h : buildSliceA P H t len parts = some (v, H'))
    (hok : ∀ p ∈ parts, p.2.OK w0 base H.next) (hlo : lo ≤ H.next) :
    ∃ ι' w', (Instr.buildSlice t len (parts.map fun p => (p.1, p.2.conc ι)).toArray).run P w = .ok (v.conc ι') w' ∧ Post P w0 base lo ι H w ι' H' w' ∧ v.OK w0 base H'.next := by
  unfold buildSliceA at h
  cases hu : P.underlying t with
  | none => simp [hu] at h
  | some d =>
    cases d <;> simp only [hu] at h <;> try (cases h; done)
    rename_i e
    cases hs : sizeA P e with
    | none => simp [hs] at h
    | some sz =>
      cases hz : zeroA P e with
      | none => simp [hs, hz] at h
      | some z =>
        simp only [hs, hz] at h
        split at h
        · rename_i hc
          simp only [Bool.and_eq_true, decide_eq_true_eq] at hc
          obtain ⟨⟨⟨h24, hzl⟩, hlz⟩, hlp⟩ := hc
          split at h
          · rename_i cs hcs
            cases h
            have hf := fillA_sound (ι := ι) _ parts _ cs hcs
            obtain ⟨hlen, hmem⟩ := fillA_mem _ parts _ cs hcs
            rw [length_zerosA, hzl] at hlen
            have hze := zerosA_eq (ι := ι) z.cells len
            rw [hzl] at hze
            have hz0 : ((if len * sz = 0 then pure #[] else do pure (← zeroValue e).cells : Sem (Array Value)).run P w) = .ok (if len * sz = 0 then #[] else (z.conc ι).cells) w := by
              split <;> simp [run_zeroA hz ι]
            have hzz : ((Array.range (len * sz)).map fun i => (if len * sz = 0 then #[] else (z.conc ι).cells)[i % (if len * sz = 0 then #[] else (z.conc ι).cells).size]!) = ((zerosA z.cells len).map (AV.conc ι)).toArray := by
              by_cases h0 : len * sz = 0
              · have : zerosA z.cells len = [] := List.eq_nil_of_length_eq_zero (by rw [length_zerosA, hzl]; exact h0)
                simp [h0, this]
              · simp only [h0, if_false, conc_cells']
                exact hze
            have ha := Post.alloc (lo := lo) s (.cells e cs) (.cells (cs.map (AV.conc ι)).toArray e) len
              (fun x hx => by
                rcases hmem x hx with h' | ⟨p, hp, h'⟩
                · exact OK.mono (Nat.zero_le _) x (OK_cells (OK_zeroA hz) x (mem_zerosA _ h'))
                · exact OK_cells (hok p hp) x h')
              ⟨_, rfl, ⟨[], by simp⟩, by simp [hlen, cellsOf_sizeA hs]⟩ hlo
            refine ⟨_, _, ?_, ha, by simp [AV.OK]⟩
            have h24' : ¬ (16777216 < len * sz) := by omega
            by_cases h0 : len * sz = 0
            · simp only [h0, if_true] at hzz
              simp only [Instr.buildSlice, Sem.run_bind, run_underlying hu, run_sizeA hs, Result.andThen_ok]
              rw [if_neg (by omega)]
              simp only [h0, if_true, pure_bind, Sem.run_bind, Result.andThen_ok]
              rw [hzz, hf]
              simp [newRow, newObj, Sem.run, AV.conc]
            · simp only [h0, if_false] at hzz
              simp only [Instr.buildSlice, Sem.run_bind, run_underlying hu, run_sizeA hs, Result.andThen_ok]
              rw [if_neg (by omega)]
              simp only [h0, if_false, pure_bind, bind_assoc, Sem.run_bind, Result.andThen_ok, run_zeroA hz ι]
              rw [hzz, hf]
              simp [newRow, newObj, Sem.run, AV.conc]
          · cases h
        · cases h
end
end Go.Ab
/-! The abstract interpreter is sound, 4: slices, addresses, append, copy, conversions. Conditions: none. -/
set_option linter.unusedSimpArgs false
set_option linter.unusedVariables false
namespace Go.Ab
open Go Go.RowKit
section
variable {P : Program} {w0 : World} {base lo : Nat} {ι ι1 ι2 : Inj} {H H1 H2 : Heap} {w w1 w2 : World}

theorem wrap_i64 {n : Int} (h : -9223372036854775808 ≤ n) (h' : n ≤ 9223372036854775807) : IntKind.i64.wrap n = n := by
  have e : IntKind.i64.wrap n = if n % 18446744073709551616 ≥ 9223372036854775808 then n % 18446744073709551616 - 18446744073709551616 else n % 18446744073709551616 := by
    simp [IntKind.wrap, IntKind.bits, IntKind.signed]
  rw [e]
  split <;> omega

theorem makeSliceA_sound [E : Env] (s : Sim P w0 base ι H w) {t : TypeId} {l c v : AV} {H' : Heap} (h : makeSliceA P H t l c = some (v, H')) (hlo : lo ≤ H.next) :
    ∃ ι' w', (Instr.makeSlice t (l.conc ι) (c.conc ι)).run P w = .ok (v.conc ι') w' ∧ Post P w0 base lo ι H w ι' H' w' ∧ v.OK w0 base H'.next := by
  unfold makeSliceA at h
  split at h
  · rename_i e l c hu
    split at h
    · rename_i i z hi hz
      split at h
      · rename_i hc
        cases h
        simp only [Bool.and_eq_true, decide_eq_true_eq] at hc
        obtain ⟨⟨⟨⟨⟨h0, hlc⟩, hb⟩, h63⟩, hzl⟩, hleaf⟩ := hc
        have hs : sizeA P e = some i.size := by simp [sizeA, hi]
        have hwl : IntKind.i64.wrap l = l := wrap_i64 (by omega) (by omega)
        have hwc : IntKind.i64.wrap c = c := wrap_i64 (by omega) (by omega)
        have hc0 : ¬ (c < 0) := by omega
        have hl0 : ¬ (l < 0) := by omega
        have hcl : ¬ (c < l) := by omega
        have hb' : ¬ (281474976710656 < (i.bytes : Int) * c) := by omega
        have hnat : c.toNat * i.bytes ≤ 70368744177664 := by
          have : ((c.toNat * i.bytes : Nat) : Int) ≤ 70368744177664 := by
            rw [Int.natCast_mul, Int.toNat_of_nonneg (by omega), Int.mul_comm]; exact hb
          omega
        have hroom : ¬ (c.toNat * i.bytes > roomBytes) := by simp [roomBytes]; omega
        have hze := zerosA_eq (ι := ι) z.cells c.toNat
        rw [hzl] at hze
        have hn : ((if c.toNat * i.size = 0 then pure #[] else do pure (← zeroValue e).cells : Sem (Array Value)).run P w) = .ok (if c.toNat * i.size = 0 then #[] else (z.conc ι).cells) w := by
          split <;> simp [run_zeroA hz ι]
        have hzz : ((Array.range (c.toNat * i.size)).map fun k => (if c.toNat * i.size = 0 then #[] else (z.conc ι).cells)[k % (if c.toNat * i.size = 0 then #[] else (z.conc ι).cells).size]!) = ((zerosA z.cells c.toNat).map (AV.conc ι)).toArray := by
          by_cases hx : c.toNat * i.size = 0
          · have : zerosA z.cells c.toNat = [] := List.eq_nil_of_length_eq_zero (by rw [length_zerosA, hzl]; exact hx)
            simp [hx, this]
          · simp only [hx, if_false, conc_cells']
            exact hze
        have hsplit : ∃ m, c.toNat = l.toNat + m := ⟨c.toNat - l.toNat, by omega⟩
        obtain ⟨m, hm⟩ := hsplit
        have happ : ∀ a b : Nat, zerosA z.cells (a + b) = zerosA z.cells a ++ zerosA z.cells b := fun a b => by
          induction a with
          | zero => simp [zerosA]
          | succ a ih => rw [Nat.succ_add]; simp [zerosA, ih]
        have ha := Post.alloc (lo := lo) s (.cells e (zerosA z.cells l.toNat)) (.cells ((zerosA z.cells c.toNat).map (AV.conc ι)).toArray e) c.toNat
          (fun x hx => OK.mono (Nat.zero_le _) x (OK_cells (OK_zeroA hz) x (mem_zerosA _ hx)))
          ⟨_, rfl, ⟨(zerosA z.cells m).map (AV.conc ι), by rw [hm, happ]; simp⟩, by simp [length_zerosA, hzl, cellsOf_sizeA hs]⟩ hlo
        refine ⟨_, _, ?_, ha, by simp [AV.OK]⟩
        by_cases hx : c.toNat * i.size = 0
        · simp only [hx, if_true] at hzz
          simp only [Instr.makeSlice, Sem.run_bind, run_underlying hu, Result.andThen_ok, AV.conc, asInt, asIntOf, pure_bind, typeInfo]
          simp [hi, hwl, hwc, hc0, hl0, hcl, hb', askRoom, hroom, run_sizeA hs]
          simp only [hx, if_true]
          simp at hzz
          simp [hzz, newRow, newObj, Sem.run]
        · simp only [hx, if_false] at hzz
          simp only [Instr.makeSlice, Sem.run_bind, run_underlying hu, Result.andThen_ok, AV.conc, asInt, asIntOf, pure_bind, typeInfo]
          simp [hi, hwl, hwc, hc0, hl0, hcl, hb', askRoom, hroom, run_sizeA hs]
          simp only [hx, if_false, run_zeroA hz ι, Result.andThen_ok]
          rw [hzz]
          simp [newRow, newObj, Sem.run]
      · cases h
    · cases h
  · cases h

theorem boundA_some {d : Nat} {v : AV} {n y : Nat} (h : boundA d (some v) = some n) (hn : n ≤ y) (code : BoundsCode) :
    (Instr.sliceBound (v.conc ι) y code).run P w = .ok n w := by
  unfold boundA at h
  split at h
  · rename_i e; cases e
  · rename_i m e
    cases e
    split at h
    · cases h
      have : 0 ≤ m ∧ m ≤ (y : Int) := by omega
      simp [Instr.sliceBound, AV.conc, asIntOf, this]
    · cases h
  · cases h

theorem sliceBounds_sound [E : Env] {lo' hi : Option AV} {len cap l h : Nat} (isS : Bool) (hl : boundA 0 lo' = some l) (hh : boundA len hi = some h) (h1 : l ≤ h) (h2 : h ≤ cap) :
    (Instr.sliceBounds isS len cap (lo'.map (AV.conc ι)) (hi.map (AV.conc ι)) none).run P w = .ok (l, h, cap) w := by
  unfold Instr.sliceBounds
  cases hi with
  | none =>
    have e1 : len = h := by simpa [boundA] using hh
    subst e1
    cases lo' with
    | none =>
      have e2 : 0 = l := by simpa [boundA] using hl
      subst e2; simp
    | some u => simp [boundA_some (P := P) (ι := ι) (w := w) hl h1]
  | some v =>
    have e1 := fun code => boundA_some (P := P) (ι := ι) (w := w) hh h2 code
    cases lo' with
    | none =>
      have e2 : 0 = l := by simpa [boundA] using hl
      subst e2; simp [e1]
    | some u => simp [e1, boundA_some (P := P) (ι := ι) (w := w) hl h1]

theorem add_add' (a : Addr) (i j : Nat) : (a.add i).add j = a.add (i + j) := by
  unfold Addr.add
  by_cases hi : i = 0 <;> by_cases hj : j = 0 <;> simp [hi, hj]
  omega
theorem add_block (a : Addr) (i : Nat) : (a.add i).block = a.block := by unfold Addr.add; split <;> rfl

theorem sliceA_sound [E : Env] (s : Sim P w0 base ι H w) {t : TypeId} {x v : AV} {lo' hi : Option AV} (h : sliceA P H t x lo' hi = some v) (hok : x.OK w0 base H.next) :
    (Instr.slice t (x.conc ι) (lo'.map (AV.conc ι)) (hi.map (AV.conc ι)) none).run P w = .ok (v.conc ι) w ∧ v.OK w0 base H.next := by
  unfold sliceA at h
  split at h
  · rename_i s hu
    split at h
    · rename_i l hh hl hhi
      split at h
      · rename_i hc
        simp only [Bool.and_eq_true, decide_eq_true_eq] at hc
        cases h
        refine ⟨?_, trivial⟩
        have := sliceBounds_sound (P := P) (ι := ι) (w := w) false hl hhi hc.1 hc.2
        simp only [Instr.slice, Sem.run_bind, run_underlying hu, Result.andThen_ok, AV.conc, Option.isSome_none, Bool.false_eq_true, if_false, pure_bind, this]
        rfl
      · cases h
    · cases h
  · rename_i e a cap sz xs hu
    split at h
    · rename_i s l hh hs hl hhi
      split at h
      · rename_i hc
        simp only [Bool.and_eq_true, Bool.or_eq_true, decide_eq_true_eq, List.isEmpty_iff] at hc
        obtain ⟨⟨hsz, hlh⟩, hhx⟩ := hc
        cases h
        have hcap : xs.length ≤ cap := by
          cases a with
          | none => simp only [AV.OK] at hok; simp [hok.1]
          | some a => simp only [AV.OK] at hok; exact hok.1
        have := sliceBounds_sound (P := P) (ι := ι) (w := w) (cap := cap) true hl hhi hlh (Nat.le_trans hhx hcap)
        have hlen : ((xs.drop l).take (hh - l)).length = hh - l := by simp; omega
        constructor
        · simp only [Instr.slice, Sem.run_bind, run_underlying hu, Result.andThen_ok, AV.conc, this, run_sizeA hs, hlen]
          cases a <;> by_cases hcl : cap = l <;> simp [hcl]
        · cases a with
          | none =>
            simp only [AV.OK] at hok
            obtain ⟨rfl, rfl⟩ := hok
            simp [AV.OK]
          | some a =>
            simp only [AV.OK] at hok
            have hL := (OKL_iff ..).1 hok.2.2
            have hin : ∀ i e, ((xs.drop l).take (hh - l))[i]? = some e → xs[l + i]? = some e := fun i e he => by
              rw [List.getElem?_take] at he
              split at he
              · rwa [List.getElem?_drop] at he
              · cases he
            have hOK2 : AV.OKL w0 base 0 ((xs.drop l).take (hh - l)) := (OKL_iff ..).2 fun x hx => hL x (List.mem_of_mem_drop (List.mem_of_mem_take hx))
            by_cases hcl : cap = l
            · have : (xs.drop l).take (hh - l) = [] := List.eq_nil_of_length_eq_zero (by rw [hlen]; omega)
              simp [hcl, AV.OK, this, AV.OKL]
            · simp only [hcl, if_false, Option.map_some, AV.OK]
              refine ⟨by rw [hlen]; omega, fun ι i e he => ?_, hOK2⟩
              have hx := hin i e he
              have hne : xs ≠ [] := fun h0 => by simp [h0] at hx
              have hszs : s = sz := hsz.resolve_right hne
              obtain ⟨hb, hsz', hcell⟩ := hok.2.1 ι (l + i) e hx
              refine ⟨by rw [add_block]; exact hb, hszs ▸ hsz', fun j c hj => ?_⟩
              rw [add_add' a, ← Nat.add_mul, hszs]
              exact hcell j c hj
      · cases h
    · cases h
  · rename_i e b i n sz hu
    split at h
    · rename_i sx l hh hs hl hhi
      split at h
      · rename_i u c hb
        split at h
        · rename_i hc
          simp only [Bool.and_eq_true, Bool.or_eq_true, decide_eq_true_eq] at hc
          obtain ⟨⟨⟨⟨⟨⟨hsz, hu2⟩, hpos⟩, hin⟩, hlh⟩, hhn⟩, hln⟩ := hc
          cases h
          refine ⟨?_, by simpa [AV.OK] using hok⟩
          obtain ⟨cur, ho, ⟨rest, hr⟩, hcs⟩ := s.rel b _ hb
          have hcur : c.length ≤ cur.size := by
            have := congrArg List.length hr
            simp at this; omega
          have hcap : i + n ≤ (ι b).2 := by
            rw [hcs, cellsOf_sizeA hu2] at hcur
            exact Nat.le_of_mul_le_mul_right (Nat.le_trans hin hcur) hpos
          have := sliceBounds_sound (P := P) (ι := ι) (w := w) (cap := (ι b).2 - i) true hl hhi hlh (by omega)
          subst hsz
          simp only [Instr.slice, Sem.run_bind, run_underlying hu, Result.andThen_ok, AV.conc, this, run_sizeA hs]
          by_cases hcl : (ι b).2 - i = l
          · have hl0 : l = 0 := by omega
            subst hl0
            simp [hcl]
          · simp only [hcl, if_false, Option.map_some, add_lit, Sem.run_pure, ← Nat.add_mul]
            congr 2
            omega
        · cases h
      · cases h
    · cases h
  · cases h
end
end Go.Ab
/-! The abstract interpreter is sound, 5: addresses, elements, len, append, copy, conversions. Conditions: none. -/
set_option linter.unusedSimpArgs false
set_option linter.unusedVariables false
namespace Go.Ab
open Go Go.RowKit
section
variable {P : Program} {w0 : World} {base lo : Nat} {ι ι1 ι2 : Inj} {H H1 H2 : Heap} {w w1 w2 : World}

theorem fieldAddrA_sound [E : Env] {t : TypeId} {x v : AV} {i : Nat} (h : fieldAddrA P t x i = some v) (hok : x.OK w0 base H.next) :
    (Instr.fieldAt t (x.conc ι) i).run P w = .ok (v.conc ι) w ∧ v.OK w0 base H.next := by
  unfold fieldAddrA at h
  cases hu : P.underlying t with
  | none => simp [hu] at h
  | some d =>
    cases d <;> simp only [hu] at h <;> try (cases h; done)
    rename_i fs
    cases hf : fs[i]? with
    | none => simp [hf] at h
    | some f =>
      cases hs : sizeA P f.type with
      | none => simp [hf, hs] at h
      | some s =>
        simp only [hf, hs] at h
        split at h
        · cases h
        · rename_i hs0
          have hrun : ∀ a : Addr, (Instr.fieldAt t (.pointer (some a)) i).run P w = .ok (.pointer (some (a.add f.offset))) w := fun a => by
            simp [Instr.fieldAt, run_underlying hu, hf, Instr.sureAddr, fieldPlace, run_sizeA hs, hs0]
          cases x <;> simp only [] at h <;> try (cases h; done)
          · cases h
            refine ⟨?_, hok⟩
            simp only [AV.conc]; rw [hrun, add_lit]
          · rename_i a cs
            cases h
            refine ⟨by simp only [AV.conc]; rw [hrun], ?_⟩
            simp only [AV.OK] at hok ⊢
            refine ⟨by rw [add_block]; exact hok.1, fun ι j c hj => ?_, (OKL_iff ..).2 fun c hc => (OKL_iff ..).1 hok.2.2 c (List.mem_of_mem_drop hc)⟩
            rw [List.getElem?_drop] at hj
            rw [add_add' a]
            exact hok.2.1 ι _ c hj

theorem partA_sound [E : Env] {t : TypeId} {cs : List AV} {off : Nat} {v : AV} (h : partA P t cs off = some v) (hok : ∀ c ∈ cs, c.OK w0 base H.next) :
    (part t (cs.map (AV.conc ι)).toArray off).run P w = .ok (v.conc ι) w ∧ v.OK w0 base H.next := by
  unfold partA at h
  cases hA : isAggA P t with
  | none => simp [hA] at h
  | some b =>
    cases b with
    | true =>
      cases hs : sizeA P t with
      | none => simp [hA, hs] at h
      | some n =>
        simp only [hA, hs] at h
        cases h
        constructor
        · simp only [part, Sem.run_bind, run_isAggA hA, Result.andThen_ok, if_true, run_sizeA hs, Sem.run_pure, AV.conc, concL_eq]
          congr 2
          simp [List.map_take, List.map_drop, List.extract_eq_take_drop]
        · simp only [AV.OK]
          exact (OKL_iff ..).2 fun c hc => hok c (List.mem_of_mem_drop (List.mem_of_mem_take hc))
    | false =>
      simp only [hA] at h
      refine ⟨?_, hok v (List.mem_of_getElem? h)⟩
      simp [part, run_isAggA hA, h]

theorem fieldA_sound [E : Env] {t : TypeId} {x v : AV} {i : Nat} (h : fieldA P t x i = some v) (hok : x.OK w0 base H.next) :
    (Instr.field t (x.conc ι) i).run P w = .ok (v.conc ι) w ∧ v.OK w0 base H.next := by
  unfold fieldA at h
  split at h
  · rename_i fs cs hu
    split at h
    · rename_i f hf
      simp only [AV.OK] at hok
      have := partA_sound (ι := ι) (w := w) h ((OKL_iff ..).1 hok)
      refine ⟨?_, this.2⟩
      simp only [Instr.field, Sem.run_bind, run_underlying hu, Result.andThen_ok, hf, AV.conc, asAgg, pure_bind, concL_eq]
      simpa using this.1
    · cases h
  · cases h

theorem indexAddrA_sound [E : Env] {t : TypeId} {x ix v : AV} (h : indexAddrA P t x ix = some v) (hok : x.OK w0 base H.next) :
    (Instr.indexAt t (x.conc ι) (ix.conc ι)).run P w = .ok (v.conc ι) w ∧ v.OK w0 base H.next := by
  unfold indexAddrA at h
  split at h
  · rename_i e a cap sz l k i hu
    split at h
    · rename_i s hs
      split at h
      · rename_i hc
        simp only [Bool.and_eq_true, decide_eq_true_eq] at hc
        split at h
        · rename_i y hy
          cases h
          have hlt : i.toNat < l.length := (List.getElem?_eq_some_iff.1 hy).1
          have hi : 0 ≤ i ∧ i < (l.length : Int) := ⟨hc.2, by omega⟩
          constructor
          · simp [Instr.indexAt, AV.conc, asIntOf, run_underlying hu, hi, run_sizeA hs]
          · simp only [AV.OK] at hok ⊢
            obtain ⟨hb, hsz, _⟩ := hok.2.1 (fun _ => (0, 0)) i.toNat y hy
            refine ⟨by rw [add_block]; exact hb, fun ι j c hj => ?_, (OKL_iff ..).2 fun c hc' => OK_cells ((OKL_iff ..).1 hok.2.2 y (List.mem_of_getElem? hy)) c hc'⟩
            rw [hc.1]
            exact (hok.2.1 ι i.toNat y hy).2.2 j c hj
        · cases h
      · cases h
    · cases h
  · rename_i e b j n sz k i hu
    split at h
    · rename_i s hs
      split at h
      · rename_i hc
        simp only [Bool.and_eq_true, decide_eq_true_eq] at hc
        cases h
        have hi : 0 ≤ i ∧ i < (n : Int) := ⟨hc.1.2, hc.2⟩
        refine ⟨?_, by simpa [AV.OK] using hok⟩
        simp [Instr.indexAt, AV.conc, asIntOf, run_underlying hu, hi, run_sizeA hs, add_lit, hc.1.1]
      · cases h
    · cases h
  · rename_i n e b o k i hu
    split at h
    · rename_i s hs
      split at h
      · rename_i hc
        simp only [Bool.and_eq_true, decide_eq_true_eq] at hc
        cases h
        have hi : 0 ≤ i ∧ i < (n : Int) := hc
        refine ⟨?_, by simpa [AV.OK] using hok⟩
        simp [Instr.indexAt, AV.conc, asIntOf, run_underlying hu, hi, run_sizeA hs, add_lit, Instr.sureAddr]
      · cases h
    · cases h
  · cases h

theorem indexA_sound [E : Env] {t : TypeId} {x ix v : AV} (h : indexA P t x ix = some v) (hok : x.OK w0 base H.next) :
    (Instr.index t (x.conc ι) (ix.conc ι)).run P w = .ok (v.conc ι) w ∧ v.OK w0 base H.next := by
  unfold indexA at h
  split at h
  · rename_i s k i hu
    split at h
    · rename_i hi
      split at h
      · rename_i b hb
        cases h
        have hb' : s[i.toNat]? = some b := by
          have : i.toNat < s.size := by
            have := (List.getElem?_eq_some_iff.1 hb).1
            simpa using this
          rw [getElem?_pos s i.toNat this]
          have h2 := hb
          rw [List.getElem?_eq_getElem (by simpa using this)] at h2
          simpa [ByteArray.getElem_eq_getElem_data] using h2
        exact ⟨by simp [Instr.index, AV.conc, asIntOf, run_underlying hu, hi, hb'], trivial⟩
      · cases h
    · cases h
  · rename_i n e cs k i hu
    split at h
    · rename_i s hs
      split at h
      · rename_i hc
        simp only [Bool.and_eq_true, decide_eq_true_eq] at hc
        simp only [AV.OK] at hok
        have := partA_sound (ι := ι) (w := w) h ((OKL_iff ..).1 hok)
        refine ⟨?_, this.2⟩
        have hc' : 0 ≤ i ∧ i < (n : Int) := hc
        simp [Instr.index, AV.conc, asIntOf, run_underlying hu, hc', run_sizeA hs, concL_eq]
        simpa using this.1
      · cases h
    · cases h
  · cases h

theorem lenTA_sound [E : Env] (s : Sim P w0 base ι H w) {t : Option TypeId} {x : AV} {n : Nat} (h : lenTA P H t x = some n) (ats : Array TypeId) (hat : ats[0]? = t) (ty : TypeId) :
    (Builtin.len_ ats ty #[x.conc ι]).run P w = .ok (.int .i64 n) w := by
  cases t with
  | none => simp [lenTA] at h
  | some t =>
    unfold lenTA at h
    simp only [Option.bind_some] at h
    cases hu : P.underlying t with
    | none => simp [hu] at h
    | some d =>
      cases d <;> cases x <;> simp only [hu] at h <;> try (cases h; done)
      · cases h; simp [Builtin.len_, hat, run_underlying hu, AV.conc, goInt]
      · cases h; simp [Builtin.len_, hat, run_underlying hu, AV.conc, goInt]
      · cases h; simp [Builtin.len_, hat, run_underlying hu, AV.conc, goInt]
      · rename_i b
        cases b with
        | none => cases h; simp [Builtin.len_, hat, run_underlying hu, AV.conc, goInt]
        | some b =>
          simp only [] at h
          split at h
          · rename_i es c hb
            cases h
            have hr := s.rel b _ hb
            simp only [BlkRel] at hr
            simp [Builtin.len_, hat, run_underlying hu, AV.conc, goInt, getObj, Sem.run, hr, mapEntries]
          · cases h

theorem maxA_sound : ∀ (vs : List AV) (x v : AV), maxA x vs = some v → ((vs.map (AV.conc ι)).foldlM Builtin.max2 (x.conc ι)).run P w = .ok (v.conc ι) w ∧ ((v = x) ∨ ∃ k n, v = .int k n)
  | [], x, v, h => by simp only [maxA] at h; cases h; exact ⟨by simp, .inl rfl⟩
  | y :: vs, x, v, h => by
    cases x <;> cases y <;> simp only [maxA] at h <;> try (cases h; done)
    split at h
    · rename_i hk
      have := maxA_sound vs _ v h
      refine ⟨?_, .inr ?_⟩
      · simp only [List.map_cons, List.foldlM_cons, AV.conc, Builtin.max2, pure_bind]
        simpa [AV.conc] using this.1
      · rcases this.2 with rfl | h2
        · exact ⟨_, _, rfl⟩
        · exact h2
    · cases h
theorem minA_sound : ∀ (vs : List AV) (x v : AV), minA x vs = some v → ((vs.map (AV.conc ι)).foldlM Builtin.min2 (x.conc ι)).run P w = .ok (v.conc ι) w ∧ ((v = x) ∨ ∃ k n, v = .int k n)
  | [], x, v, h => by simp only [minA] at h; cases h; exact ⟨by simp, .inl rfl⟩
  | y :: vs, x, v, h => by
    cases x <;> cases y <;> simp only [minA] at h <;> try (cases h; done)
    split at h
    · rename_i hk
      have := minA_sound vs _ v h
      refine ⟨?_, .inr ?_⟩
      · simp only [List.map_cons, List.foldlM_cons, AV.conc, Builtin.min2, pure_bind]
        simpa [AV.conc] using this.1
      · rcases this.2 with rfl | h2
        · exact ⟨_, _, rfl⟩
        · exact h2
    · cases h

/-- the elements of a slice or string, as append and copy take them -/
theorem elemsA_sound [E : Env] (s : Sim P w0 base ι H w) {sz : Nat} {x : AV} {cs : List AV} (h : elemsA H sz x = some cs) (hok : x.OK w0 base H.next) {m : Nat} (hm : m * sz ≤ cs.length) (hm2 : lenA H x = some m ∨ m * sz < cs.length ∨ True)
    (hstr : ∀ b, x = .str b → m ≤ b.size) :
    (Builtin.firstCells sz m (x.conc ι)).run P w = .ok ((cs.take (m * sz)).map (AV.conc ι)).toArray w ∧ ∀ c ∈ cs, c.OK w0 base H.next := by
  unfold elemsA at h
  split at h
  · rename_i a cap s' l
    split at h
    · rename_i hs
      cases h
      simp only [Bool.or_eq_true, decide_eq_true_eq, List.isEmpty_iff] at hs
      have hOK : ∀ c ∈ l.flatMap AV.cells, c.OK w0 base H.next := fun c hc => by
        obtain ⟨y, hy, hc⟩ := List.mem_flatMap.1 hc
        cases a with
        | none => simp only [AV.OK] at hok; rw [hok.1] at hy; simp at hy
        | some a =>
          simp only [AV.OK] at hok
          exact OK.mono (Nat.zero_le _) c (OK_cells ((OKL_iff ..).1 hok.2.2 y hy) c hc)
      refine ⟨?_, hOK⟩
      cases a with
      | none =>
        simp only [AV.OK] at hok
        simp [hok.1, AV.conc, Builtin.firstCells]
      | some a =>
        simp only [AV.OK] at hok
        have hcell : ∀ j u, (((l.flatMap AV.cells).take (m * sz)).map (AV.conc ι))[j]? = some u → w.cell? (a.add j) = some u := fun j u hj => by
          rw [List.getElem?_map] at hj
          obtain ⟨c, hc, rfl⟩ := Option.map_eq_some_iff.1 hj
          rw [List.getElem?_take] at hc
          split at hc
          · -- cell j lies in element j / sz
            have hne : l ≠ [] := fun h0 => by simp [h0] at hc
            have hss : s' = sz := hs.resolve_right hne
            subst hss
            have hlen : ∀ y ∈ l, y.cells.length = s' := fun y hy => by
              obtain ⟨i, hi⟩ := List.getElem?_of_mem hy
              exact (hok.2.1 ι i y hi).2.1
            have key : ∀ (l : List AV) (k j : Nat), (∀ y ∈ l, y.cells.length = s') → (∀ i e, l[i]? = some e → a.block < base ∧ ∀ j c, e.cells[j]? = some c → w0.cell? ((a.add ((k + i) * s')).add j) = some (c.conc ι)) →
                (l.flatMap AV.cells)[j]? = some c → a.block < base ∧ w0.cell? (a.add (k * s' + j)) = some (c.conc ι) := by
              intro l
              induction l with
              | nil => intro k j _ _ h; simp at h
              | cons y l ih =>
                intro k j hl hc h
                rw [List.flatMap_cons] at h
                by_cases hj : j < y.cells.length
                · rw [List.getElem?_append_left hj] at h
                  have := hc 0 y rfl
                  refine ⟨this.1, ?_⟩
                  have h2 := this.2 j c h
                  rwa [add_add' a, Nat.add_zero] at h2
                · rw [List.getElem?_append_right (by omega)] at h
                  have hy := hl y (by simp)
                  have := ih (k + 1) (j - y.cells.length) (fun z hz => hl z (by simp [hz])) (fun i e he => by
                    have := hc (i + 1) e (by simpa using he)
                    rwa [show k + (i + 1) = k + 1 + i by omega] at this) h
                  rw [hy] at this hj
                  have e : (k + 1) * s' + (j - s') = k * s' + j := by rw [Nat.add_mul]; omega
                  rwa [e] at this
            have := key l 0 j hlen (fun i e he => by
              have := hok.2.1 ι i e he
              rw [Nat.zero_add]
              exact ⟨this.1, this.2.2⟩) hc
            rw [Nat.zero_mul, Nat.zero_add] at this
            rw [s.below.cell (p := a.add j) (by rw [add_block]; exact this.1)]
            exact this.2
          · cases hc
        have := run_firstCells_some (P := P) w sz m a l.length cap (((l.flatMap AV.cells).take (m * sz)).map (AV.conc ι)) (by rw [List.length_map, List.length_take]; omega) hcell
        simpa [AV.conc] using this
    · cases h
  · rename_i b i n s'
    split at h
    · rename_i t c hb
      split at h
      · rename_i hc
        simp only [Bool.and_eq_true, decide_eq_true_eq] at hc
        cases h
        obtain ⟨hss, hle⟩ := hc
        subst hss
        obtain ⟨cur, ho, ⟨rest, hr⟩, hcs⟩ := s.rel b _ hb
        refine ⟨?_, fun u hu => s.ok b _ hb u (List.mem_of_mem_drop (List.mem_of_mem_take hu))⟩
        have := run_firstCells_some (P := P) w s' m ⟨(ι b).1, i * s', none⟩ n ((ι b).2 - i) ((((c.drop (i * s')).take (n * s')).take (m * s')).map (AV.conc ι)) (by simp at hm ⊢; omega) (fun j u hj => by
          rw [List.getElem?_map] at hj
          obtain ⟨x, hx, rfl⟩ := Option.map_eq_some_iff.1 hj
          rw [List.getElem?_take] at hx
          split at hx
          · rw [List.getElem?_take] at hx
            split at hx
            · rw [List.getElem?_drop] at hx
              rw [add_lit, cell_of_row w _ _ _ _ _ ho, ← Array.getElem?_toList, hr]
              have hlt := (List.getElem?_eq_some_iff.1 hx).1
              rw [List.getElem?_append_left (by simpa using hlt), List.getElem?_map, hx]
              rfl
            · cases hx
          · cases hx)
        simpa [AV.conc] using this
      · cases h
    · cases h
  · rename_i b
    split at h
    · rename_i h1
      cases h
      subst h1
      refine ⟨?_, fun c hc => by obtain ⟨y, _, rfl⟩ := List.mem_map.1 hc; trivial⟩
      simp only [AV.conc, Builtin.firstCells, Sem.run_pure]
      congr 1
      apply Array.ext'
      have hb := hstr b rfl
      simp [AV.conc, List.map_take]
      exact congrArg _ (List.map_congr_left fun _ _ => rfl)
    · cases h
  · cases h
end
end Go.Ab
/-! The abstract interpreter is sound, 6: append, copy, conversions. Conditions: none. -/
set_option linter.unusedSimpArgs false
set_option linter.unusedVariables false
namespace Go.Ab
open Go Go.RowKit
section
variable {P : Program} {w0 : World} {base lo : Nat} {ι ι1 ι2 : Inj} {H H1 H2 : Heap} {w w1 w2 : World}

theorem lenA_str {x : AV} {n : Nat} (h : lenA H x = some n) : ∀ b, x = .str b → n ≤ b.size := fun b e => by subst e; simp [lenA] at h; omega

/-- what the appended value gives -/
theorem appended_sound [E : Env] (s : Sim P w0 base ι H w) {sz : Nat} {x : AV} {cs : List AV} {n : Nat} (h : elemsA H sz x = some cs) (hl : lenA H x = some n) (hc : cs.length = n * sz) (hok : x.OK w0 base H.next) :
    (∀ k, (Builtin.firstCells sz n (x.conc ι)).run P { w with drawn := k } = .ok (cs.map (AV.conc ι)).toArray { w with drawn := k }) ∧ (Builtin.lenOf (x.conc ι)).run P w = .ok n w ∧ (∀ c ∈ cs, c.OK w0 base H.next) := by
  refine ⟨fun k => ?_, ?_, (elemsA_sound (m := n) s h hok (by omega) (.inl hl) (lenA_str hl)).2⟩
  · have := (elemsA_sound (m := n) (s.drawn k) h hok (by omega) (.inl hl) (lenA_str hl)).1
    rwa [← hc, List.take_length] at this
  · cases x <;> simp only [lenA] at hl <;> try (cases hl; done)
    · cases hl; simp [AV.conc, Builtin.lenOf]
    · cases hl; simp [AV.conc, Builtin.lenOf]
    · cases hl; simp [AV.conc, Builtin.lenOf]
    · rename_i b; cases b with
      | none => simp [elemsA] at h
      | some b => simp [elemsA] at h

theorem nextslicecap_ok {need old bytes : Nat} (h : old < need) (hb : (2 * need + 200) * bytes ≤ 70368744177664) : Builtin.nextslicecap need old * bytes ≤ 281474976710656 :=
  growslice_fits h (Nat.le_trans (Nat.mul_le_mul_right _ (by omega)) (Nat.le_trans hb (by omega)))

theorem slFits_sound [E : Env] (s : Sim P w0 base ι H w) {b i m sz : Nat} (h : slFits P H b i m sz = true) : m ≤ (ι b).2 - i := by
  unfold slFits at h
  split at h
  · rename_i u c hb
    simp only [Bool.and_eq_true, decide_eq_true_eq] at h
    obtain ⟨⟨hu, hp⟩, hle⟩ := h
    obtain ⟨cur, ho, ⟨rest, hr⟩, hcs⟩ := s.rel b _ hb
    have hcur : c.length ≤ cur.size := by
      have := congrArg List.length hr
      simp at this; omega
    rw [hcs, cellsOf_sizeA hu] at hcur
    have := Nat.le_of_mul_le_mul_right (Nat.le_trans hle hcur) hp
    omega
  · cases h

/-- an own row goes over into a new one -/
theorem Post.regrow [E : Env] (s : Sim P w0 base ι H w) {b : Nat} {t : TypeId} {c cs : List AV} (hb : H.get b = some (.cells t c)) (hlo : lo ≤ b) (hOK : ∀ u ∈ cs, u.OK w0 base H.next)
    (cur : Array Value) (rest : List Value) (cap : Nat) (w1 : World) (hcur : cur.toList = (c ++ cs).map (AV.conc ι) ++ rest) (hcap : cur.size = cap * P.cellsOf t)
    (r : Nat) (hr : (r = (ι b).1 ∧ w1.heap.size = w.heap.size ∧ (∀ k, k ≠ r → w1.heap[k]? = w.heap[k]?)) ∨ (r = w.heap.size ∧ w1.heap.size = w.heap.size + 1 ∧ ∀ k, k < w.heap.size → w1.heap[k]? = w.heap[k]?))
    (hw : w1.os = w.os ∧ w1.tape = w.tape ∧ w1.output = w.output) (ho : w1.heap[r]? = some (.cells cur t (0, 0))) :
    Post P w0 base lo ι H w (ι.put H.next r cap) ((H.kill b).push (.cells t (c ++ cs))) w1 := by
  have hblt := s.lt b _ hb
  have hext : ∀ k, k < H.next → ι.put H.next r cap k = ι k := fun k h => Inj.put_lt ι _ _ h
  have hget : ∀ k y, ((H.kill b).push (.cells t (c ++ cs))).get k = some y → (k = H.next ∧ y = .cells t (c ++ cs)) ∨ (k < H.next ∧ k ≠ b ∧ H.get k = some y) := fun k y h => by
    rw [Heap.get_push, Heap.get_kill] at h
    by_cases e : k = H.next
    · rw [if_pos (show k = (H.kill b).next from e)] at h; exact .inl ⟨e, (Option.some.inj h).symm⟩
    · rw [if_neg (show ¬ k = (H.kill b).next from e)] at h
      by_cases e2 : k = b
      · simp [e2] at h
      · rw [if_neg e2] at h; exact .inr ⟨s.lt k y h, e2, h⟩
  have hsame : ∀ k y, H.get k = some y → k ≠ b → w1.heap[(ι k).1]? = w.heap[(ι k).1]? ∧ (ι k).1 ≠ r := fun k y h hne => by
    rcases hr with ⟨e, _, hk⟩ | ⟨e, _, hk⟩
    · have : (ι k).1 ≠ r := fun h' => hne (s.inj k b y _ h hb (h'.trans e))
      exact ⟨hk _ this, this⟩
    · have := s.blt h
      exact ⟨hk _ this, by omega⟩
  have hbr : base ≤ r := by
    rcases hr with ⟨e, _⟩ | ⟨e, _⟩
    · rw [e]; exact s.lo b _ hb
    · rw [e]; exact Nat.le_trans s.hb s.below.size
  refine ⟨⟨?_, s.hb, s.gl, ?_, ?_, ?_, ?_, ?_⟩, hext, by simp, ?_, ?_, ?_, ?_, ?_⟩
  · refine s.below.trans ⟨hw.1, hw.2.1, hw.2.2, by rcases hr with ⟨_, e, _⟩ | ⟨_, e, _⟩ <;> omega, fun k hk => ?_⟩
    rcases hr with ⟨e, _, h⟩ | ⟨e, _, h⟩
    · exact h k (by omega)
    · exact h k (by have := s.below.size; have := s.hb; omega)
  · intro k k' y y' h h' e
    rcases hget k y h with ⟨rfl, rfl⟩ | ⟨hk, hkb, hy⟩ <;> rcases hget k' y' h' with ⟨rfl, rfl⟩ | ⟨hk', hkb', hy'⟩
    · rfl
    · rw [hext k' hk', Inj.put_same] at e; exact absurd e.symm (hsame k' y' hy' hkb').2
    · rw [hext k hk, Inj.put_same] at e; exact absurd e (hsame k y hy hkb).2
    · rw [hext k hk, hext k' hk'] at e; exact s.inj k k' y y' hy hy' e
  · intro k y h; rcases hget k y h with ⟨rfl, rfl⟩ | ⟨hk, _, _⟩ <;> simp <;> omega
  · intro k y h
    rcases hget k y h with ⟨rfl, rfl⟩ | ⟨hk, _, hy⟩
    · simpa using hbr
    · rw [hext k hk]; exact s.lo k y hy
  · intro k y h
    rcases hget k y h with ⟨rfl, rfl⟩ | ⟨hk, _, hy⟩
    · intro u hu
      rcases List.mem_append.1 hu with hu | hu
      · exact OK.mono (by simp) u (s.ok b _ hb u hu)
      · exact OK.mono (by simp) u (hOK u hu)
    · exact (s.ok k y hy).mono (by simp)
  · intro k y h
    rcases hget k y h with ⟨rfl, rfl⟩ | ⟨hk, hkb, hy⟩
    · rw [Inj.put_same]
      refine ⟨cur, ho, ⟨rest, ?_⟩, hcap⟩
      rw [hcur]
      congr 1
      refine (map_conc_ext (w0 := w0) (base := base) hext fun u hu => ?_).symm
      rcases List.mem_append.1 hu with hu | hu
      · exact s.ok b _ hb u hu
      · exact hOK u hu
    · rw [hext k hk, (hsame k y hy hkb).1]
      exact BlkRel.ext hext (s.ok k y hy) (s.rel k y hy)
  · intro k hk
    rw [Heap.get_push, Heap.get_kill, if_neg (by simp; omega), if_neg (by omega)]
  · intro k y hk h
    rcases hget k y h with ⟨rfl, rfl⟩ | ⟨_, _, hy⟩
    · omega
    · exact ⟨y, hy⟩
  · rcases hr with ⟨_, e, _⟩ | ⟨_, e, _⟩ <;> omega
  · intro k hk hne
    rcases hr with ⟨e, _, h⟩ | ⟨e, _, h⟩
    · exact h k (fun h' => hne b _ hb hlo (by rw [h', e]))
    · exact h k hk
  · intro k y h hk
    rcases hget k y h with ⟨rfl, rfl⟩ | ⟨hk', _, _⟩
    · rw [Inj.put_same]
      rcases hr with ⟨e, _⟩ | ⟨e, _⟩
      · exact .inr ⟨b, _, hb, hlo, e⟩
      · exact .inl (by simp [e])
    · omega

theorem appendA_sound [E : Env] (s : Sim P w0 base ι H w) {st xt : Option TypeId} {a x v : AV} {H' : Heap} (h : appendA P lo H st xt a x = some (v, H')) (ats : Array TypeId) (h0 : ats[0]? = st) (h1 : ats[1]? = xt) (ty : TypeId)
    (ha : a.OK w0 base H.next) (hx : x.OK w0 base H.next) (hlo : lo ≤ H.next) :
    ∃ ι' w', (Builtin.append_ ats ty #[a.conc ι, x.conc ι]).run P w = .ok (v.conc ι') w' ∧ Post P w0 base lo ι H w ι' H' w' ∧ v.OK w0 base H'.next := by
  unfold appendA at h
  cases st with
  | none => simp at h
  | some st =>
  cases xt with
  | none => simp at h
  | some xt =>
  simp only [Option.bind_some] at h
  cases hu : P.underlying st with
  | none => simp [hu] at h
  | some d =>
  cases hxu : P.underlying xt with
  | none => simp [hu, hxu] at h
  | some xd =>
  cases d <;> simp only [hu, hxu] at h <;> try (cases h; done)
  rename_i e
  split at h
  · cases h
  rename_i hint
  cases hi : P.info? e with
  | none => simp [hi] at h
  | some i =>
  cases hz : zeroA P e with
  | none => simp [hi, hz] at h
  | some z =>
  have hce : P.cellsOf e = i.size := by simp [Program.cellsOf, hi]
  rw [hce] at h
  cases hcs : elemsA H i.size x with
  | none => simp [hi, hz, hcs] at h
  | some cs =>
  cases hn : lenA H x with
  | none => simp [hi, hz, hcs, hn] at h
  | some n =>
  simp only [hi, hz, hcs, hn] at h
  split at h
  case isFalse => cases h
  rename_i hcond
  simp only [appendOk, Bool.and_eq_true, decide_eq_true_eq] at hcond
  obtain ⟨⟨⟨hs0, hzl⟩, hcl⟩, hleaf⟩ := hcond
  have hsz : sizeA P e = some i.size := by simp [sizeA, hi]
  obtain ⟨hf, hlen, hOK⟩ := appended_sound s hcs hn hcl hx
  have hleaf' : ∀ u ∈ cs.map (AV.conc ι), u.oneCell' = true := fun u hu => by
    obtain ⟨y, hy, rfl⟩ := List.mem_map.1 hu
    exact leaf_oneCell (by simpa [leafs] using (List.all_eq_true.1 hleaf) y hy)
  have hfw : (Builtin.firstCells i.size n (x.conc ι)).run P w = .ok (cs.map (AV.conc ι)).toArray w := hf w.drawn
  have hzc : (z.conc ι).cells.size = i.size := by rw [size_cells, hzl]
  have hroom : ∀ (A : Option Addr) (L C : Nat) (w' : World), L + n ≤ C → (match A with | some a => (storeCells (a.add (L * i.size)) (cs.map (AV.conc ι))).run P w = .ok () w' | none => w' = w) →
      (Builtin.append_ ats ty #[.slice A L C, x.conc ι]).run P w = .ok (.slice A (L + n) C) w' := by
    intro A L C w' hle hst
    cases xd <;> simp [srcOk] at hint
    all_goals
      cases A with
      | none =>
        simp only [] at hst
        subst hst
        simp [Builtin.append_, h0, h1, run_underlying hu, run_underlying hxu, run_sizeA hsz, hlen, hle, hfw]
      | some A =>
        simp only [] at hst
        simp [Builtin.append_, h0, h1, run_underlying hu, run_underlying hxu, run_sizeA hsz, hlen, hle, hfw, hst]
  have hgrow : ∀ (A : Option Addr) (L C : Nat) (olds : List Value), C < L + n → appendFits i L n = true → (∀ k, (Builtin.firstCells i.size L (.slice A L C)).run P { w with drawn := k } = .ok olds.toArray { w with drawn := k }) →
      (Builtin.append_ ats ty #[.slice A L C, x.conc ι]).run P w = .ok (.slice (some ⟨w.heap.size, 0, none⟩) (L + n) (grownCap w (L + n) C e))
        (({ w with drawn := w.drawn + 1 } : World).alloc (.cells (olds.toArray ++ (cs.map (AV.conc ι)).toArray ++ Builtin.zeroCells (z.conc ι).cells (grownCap w (L + n) C e - (L + n))) e)) := by
    intro A L C olds hlt hfit hold
    simp only [appendFits, Bool.and_eq_true, decide_eq_true_eq] at hfit
    have hn' : ¬ (L + n ≤ C) := by omega
    have h63 : ¬ (9223372036854775807 < ((L : Int) + (n : Int))) := by omega
    have h48 : ¬ (281474976710656 < Builtin.nextslicecap (L + n) C * i.bytes) := by have := nextslicecap_ok hlt hfit.1; omega
    cases xd <;> simp [srcOk] at hint
    all_goals
      simp [Builtin.append_, h0, h1, run_underlying hu, run_underlying hxu, run_sizeA hsz, hlen, hn', hi, typeInfo, h63, h48, Question.forced, askRoom]
      have e1 : (Builtin.firstCells i.size L (.slice A L C)).run P w.drew = .ok olds.toArray w.drew := hold (w.drawn + 1)
      have e2 : (Builtin.firstCells i.size n (x.conc ι)).run P w.drew = .ok (cs.map (AV.conc ι)).toArray w.drew := hf (w.drawn + 1)
      simp [e1, e2, run_zeroA hz ι, newRow, newObj, Sem.run, grownCap]
      congr 2
      apply Array.ext'
      simp
  have hdr : ∀ (o : Obj), ({ w with drawn := w.drawn + 1 } : World).alloc o = { w.alloc o with drawn := w.drawn + 1 } := fun o => rfl
  unfold appendTo at h
  split at h
  · -- nil
    rename_i cap s' l
    simp only [AV.OK] at ha
    obtain ⟨rfl, rfl⟩ := ha
    split at h
    · rename_i hn0
      cases h
      subst hn0
      refine ⟨ι, w, ?_, Post.refl s, by simp [AV.OK]⟩
      exact hroom none 0 0 w (by omega) rfl
    · rename_i hn0
      split at h
      · rename_i hfit
        cases h
        have hr := hgrow none 0 0 [] (by omega) hfit (fun k => by simp [Builtin.firstCells])
        simp only [Nat.zero_add] at hr
        have hge := grownCap_ge w n 0 e
        have ha := Post.alloc (lo := lo) s (.cells e cs) (.cells ((cs.map (AV.conc ι)).toArray ++ Builtin.zeroCells (z.conc ι).cells (grownCap w n 0 e - n)) e) (grownCap w n 0 e) hOK
          ⟨_, rfl, ⟨(Builtin.zeroCells (z.conc ι).cells (grownCap w n 0 e - n)).toList, by simp⟩, by
            simp [Builtin.zeroCells, hzc, hcl, cellsOf_sizeA hsz, ← Nat.add_mul]
            congr 1; omega⟩ hlo
        refine ⟨_, _, ?_, ha.drawn (w.drawn + 1), by simp [AV.OK]⟩
        rw [← hdr]
        simp only [AV.conc] at hr ⊢
        simpa using hr
      · cases h
  · -- came in
    rename_i A cap s' l
    split at h
    · rename_i hn0
      cases h
      subst hn0
      have hcs0 : cs = [] := List.eq_nil_of_length_eq_zero (by simpa using hcl)
      simp only [AV.OK] at ha
      refine ⟨ι, w, ?_, Post.refl s, by simpa only [AV.OK] using ha⟩
      exact hroom (some A) l.length cap w (by simpa using ha.1) (by simp [hcs0, storeCells])
    · cases h
  · -- an own row
    rename_i b j m sz
    split at h
    · rename_i hn0
      split at h
      · rename_i hfits
        cases h
        subst hn0
        have hcs0 : cs = [] := List.eq_nil_of_length_eq_zero (by simpa using hcl)
        refine ⟨ι, w, ?_, Post.refl s, ha⟩
        exact hroom _ m _ w (by simpa using slFits_sound s hfits) (by simp [hcs0, storeCells])
      · cases h
    · rename_i hn0
      split at h
      · rename_i hj0
        subst hj0
        split at h
        · rename_i u c hb
          split at h
          · rename_i hc
            simp only [Bool.and_eq_true, decide_eq_true_eq] at hc
            obtain ⟨⟨⟨⟨hlob, hue⟩, hszi⟩, hcm⟩, hfit⟩ := hc
            cases h
            subst hue
            subst hszi
            obtain ⟨cur, ho, ⟨rest, hr⟩, hcs'⟩ := s.rel b _ hb
            rw [cellsOf_sizeA hsz] at hcs'
            have hlen' := congrArg List.length hr
            simp only [Array.length_toList, List.length_append, List.length_map] at hlen'
            by_cases hle : m + n ≤ (ι b).2
            · -- there is room
              have hfit2 : m * i.size + n * i.size ≤ cur.size := by rw [hcs', ← Nat.add_mul]; exact Nat.mul_le_mul_right _ hle
              have hst := run_storeCells_at P (ι b).1 (m * i.size) u (cs.map (AV.conc ι)) 0 cur w ho (by simp; omega) hleaf'
              have hrun := hroom (some ⟨(ι b).1, 0 * i.size, none⟩) m ((ι b).2 - 0) _ (by simpa using hle) (by
                simp only [Nat.zero_mul, add_lit, Nat.zero_add]; exact hst)
              have hpost := Post.regrow (lo := lo) (w1 := w.setRow (ι b).1 (cur.toList.take (m * i.size + 0) ++ cs.map (AV.conc ι) ++ cur.toList.drop (m * i.size + 0 + (cs.map (AV.conc ι)).length)).toArray)
                s hb hlob hOK _ (cur.toList.drop (m * i.size + 0 + (cs.map (AV.conc ι)).length)) (ι b).2 (by
                  simp only [Nat.add_zero, List.map_append]
                  rw [hr, List.take_append_of_le_length (by simp [hcm]), List.take_of_length_le (by simp [hcm])]) (by
                  simp only [List.size_toArray, List.length_append, List.length_take, List.length_drop, Array.length_toList, List.length_map, Nat.add_zero]
                  rw [cellsOf_sizeA hsz, ← hcs']; omega)
                (ι b).1 (.inl ⟨rfl, by simp, fun k hk => setRow_other w _ k _ hk⟩) ⟨rfl, rfl, rfl⟩ (heap_setRow w _ _ _ _ ho)
              refine ⟨_, _, ?_, hpost, by simp [AV.OK]⟩
              simp only [AV.conc] at hrun ⊢
              simpa using hrun
            · -- it grows
              have hr2 := hgrow (some ⟨(ι b).1, 0 * i.size, none⟩) m ((ι b).2 - 0) (c.map (AV.conc ι)) (by omega) hfit (fun k => by
                have := run_firstCells_some (P := P) ({ w with drawn := k } : World) i.size m ⟨(ι b).1, 0 * i.size, none⟩ m ((ι b).2 - 0) (c.map (AV.conc ι)) (by simp [hcm]) (fun j v hj => by
                  rw [add_lit]
                  show w.cell? _ = some v
                  rw [cell_of_row w _ _ cur u (0, 0) ho, ← Array.getElem?_toList, hr]
                  have hlt := (List.getElem?_eq_some_iff.1 hj).1
                  rw [Nat.zero_mul, Nat.zero_add, List.getElem?_append_left hlt]
                  exact hj)
                exact this)
              have hge := grownCap_ge w (m + n) (ι b).2 u
              simp only [Nat.sub_zero] at hr2
              have hpost := Post.regrow (lo := lo) (w1 := { w.alloc (.cells ((c.map (AV.conc ι)).toArray ++ (cs.map (AV.conc ι)).toArray ++ Builtin.zeroCells (z.conc ι).cells (grownCap w (m + n) (ι b).2 u - (m + n))) u) with drawn := w.drawn + 1 })
                s hb hlob hOK _ (Builtin.zeroCells (z.conc ι).cells (grownCap w (m + n) (ι b).2 u - (m + n))).toList (grownCap w (m + n) (ι b).2 u) (by simp) (by
                  simp [Builtin.zeroCells, hzc, hcl, hcm, cellsOf_sizeA hsz, ← Nat.add_mul]
                  congr 1; omega)
                w.heap.size (.inr ⟨rfl, by simp, fun k hk => Below.heap_alloc w _ k hk⟩) ⟨rfl, rfl, rfl⟩ (heap_alloc_new w _)
              refine ⟨_, _, ?_, hpost, by simp [AV.OK]⟩
              rw [← hdr]
              simp only [AV.conc] at hr2 ⊢
              simpa using hr2
          · cases h
        · cases h
      · cases h
  · cases h
end
end Go.Ab
/-! The abstract interpreter is sound, 7: copy, maps, conversions. Conditions: none. -/
set_option linter.unusedSimpArgs false
set_option linter.unusedVariables false
namespace Go.Ab
open Go Go.RowKit
section
variable {P : Program} {w0 : World} {base lo : Nat} {ι ι1 ι2 : Inj} {H H1 H2 : Heap} {w w1 w2 : World}

theorem copyA_sound [E : Env] (s : Sim P w0 base ι H w) {dt : Option TypeId} {d x v : AV} {H' : Heap} (h : copyA P lo H dt d x = some (v, H')) (ats : Array TypeId) (h0 : ats[0]? = dt) (ty : TypeId)
    (hd : d.OK w0 base H.next) (hx : x.OK w0 base H.next) :
    ∃ w', (Builtin.copy_ ats ty #[d.conc ι, x.conc ι]).run P w = .ok (v.conc ι) w' ∧ Post P w0 base lo ι H w ι H' w' ∧ v.OK w0 base H'.next := by
  unfold copyA at h
  cases dt with
  | none => simp at h
  | some dt =>
  simp only [Option.bind_some] at h
  cases hu : P.underlying dt with
  | none => simp [hu] at h
  | some td =>
  cases td <;> simp only [hu] at h <;> try (cases h; done)
  rename_i e
  cases hs : sizeA P e with
  | none => simp [hs] at h
  | some sz =>
  simp only [hs] at h
  cases hcs : elemsA H sz x with
  | none => simp [hcs] at h
  | some cs =>
  cases hn : lenA H x with
  | none => simp [hcs, hn] at h
  | some n =>
  cases hm : lenA H d with
  | none => simp [hcs, hn, hm] at h
  | some m =>
  simp only [hcs, hn, hm] at h
  split at h
  case isFalse => cases h
  rename_i hcl
  have hkn : Nat.min n m ≤ n := Nat.min_le_left n m
  obtain ⟨_, hlen, _⟩ := appended_sound s hcs hn hcl hx
  obtain ⟨hfc, hOK⟩ := elemsA_sound (m := Nat.min n m) s hcs hx (by rw [hcl]; exact Nat.mul_le_mul_right _ hkn) (.inr (.inr trivial)) (fun b e => Nat.le_trans hkn (lenA_str hn b e))
  split at h
  · rename_i b i m' dz
    split at h
    · rename_i hdz
      subst hdz
      simp only [lenA, Option.some.injEq] at hm
      subst hm
      obtain ⟨H1, hst, he⟩ := Option.map_eq_some_iff.1 h
      cases he
      obtain ⟨a, w', ha, hrun, hpost⟩ := storeCellsA_sound s hst (fun c hc => hOK c (List.mem_of_mem_take hc))
      simp only [AV.conc, Value.pointer.injEq, Option.some.injEq] at ha
      subst ha
      refine ⟨w', ?_, hpost, trivial⟩
      rw [List.map_take] at hrun
      simp [Builtin.copy_, h0, run_underlying hu, run_sizeA hs, AV.conc, hlen, hfc, hrun, goInt]
    · cases h
  · cases h
    simp only [AV.OK] at hd
    simp only [lenA, Option.some.injEq] at hm
    rw [hd.1] at hm
    simp only [List.length_nil] at hm
    subst hm
    refine ⟨w, ?_, Post.refl s, trivial⟩
    have hz : Nat.min n 0 = 0 := Nat.min_zero n
    rw [hz] at hfc
    simp [Builtin.copy_, h0, run_underlying hu, run_sizeA hs, AV.conc, hlen, hz, hfc, goInt, hd.1]
  · cases h

theorem bytesOfA_spec : ∀ (cs : List AV) (l : List UInt8), bytesOfA cs = some l → ∃ ns : List Int, cs = ns.map (AV.int .u8) ∧ l = ns.map fun n => UInt8.ofNat n.toNat
  | [], l, h => by simp only [bytesOfA] at h; cases h; exact ⟨[], rfl, rfl⟩
  | v :: vs, l, h => by
    simp only [bytesOfA] at h
    split at h
    · rename_i b l' hb hl
      cases h
      obtain ⟨ns, h1, h2⟩ := bytesOfA_spec vs l' hl
      unfold byteOfA at hb
      split at hb
      · rename_i n; cases hb; exact ⟨n :: ns, by simp [h1], by simp [h2]⟩
      · cases hb
    · cases h
theorem foldl_push_list : ∀ (ns : List Int) (s : ByteArray), ns.foldl (fun r n => r.push (UInt8.ofNat n.toNat)) s = ⟨s.data ++ (ns.map fun n => UInt8.ofNat n.toNat).toArray⟩
  | [], s => by simp
  | n :: ns, s => by
    simp only [List.foldl_cons]
    rw [foldl_push_list ns]
    simp [ByteArray.push]
theorem bytesString_sound [E : Env] (s : Sim P w0 base ι H w) {x : AV} {cs : List AV} {n : Nat} {l : List UInt8} (hx : (∃ a c s l, x = .rsl a c s l) ∨ ∃ b i n s, x = .sl b i n s) (h : elemsA H 1 x = some cs) (hn : lenA H x = some n) (hl : cs.length = n) (hb : bytesOfA cs = some l) (hok : x.OK w0 base H.next) :
    (Conv.bytesToString (x.conc ι)).run P w = .ok (.string ⟨l.toArray⟩) w := by
  obtain ⟨ns, h1, h2⟩ := bytesOfA_spec cs l hb
  have hf := (elemsA_sound (m := n) s h hok (by omega) (.inl hn) (lenA_str hn)).1
  have hcs : (cs.take (n * 1)).map (AV.conc ι) = ns.map (Value.int .u8) := by
    rw [Nat.mul_one, ← hl, List.take_length, h1, List.map_map]; rfl
  rw [hcs] at hf
  have hfin : (.string (ns.foldl (fun r n => r.push (UInt8.ofNat n.toNat)) ByteArray.empty) : Value) = .string ⟨l.toArray⟩ := by
    rw [foldl_push_list, h2]; simp [ByteArray.empty, ByteArray.emptyWithCapacity]; try rfl
  have main : ∀ (a : Option Addr) (L C : Nat), x.conc ι = .slice a L C → L = n → (a = none → n = 0) → (Conv.bytesToString (x.conc ι)).run P w = .ok (.string ⟨l.toArray⟩) w := by
    intro a L C he hL hnone
    rw [he] at hf ⊢
    cases a with
    | none =>
      have : ns = [] := by
        have h0 := hnone rfl
        rw [h0] at hl
        have : cs = [] := List.eq_nil_of_length_eq_zero hl
        rw [h1] at this; simpa using this
      subst this
      simp only [List.map_nil] at h2
      subst h2
      simp [Conv.bytesToString]
      rfl
    | some a =>
      simp only [Builtin.firstCells, Nat.mul_one] at hf
      subst hL
      rw [run_bytesToString w a L C ns hf, hfin]
  rcases hx with ⟨a, c, q, l', rfl⟩ | ⟨b, i, m, q, rfl⟩
  · simp only [lenA, Option.some.injEq] at hn
    refine main a l'.length c rfl hn (fun ha => ?_)
    subst ha
    simp only [AV.OK] at hok
    rw [← hn, hok.1]; rfl
  · simp only [lenA, Option.some.injEq] at hn
    exact main _ m _ rfl hn (fun ha => by cases ha)

/-! ### maps -/
theorem beq_bytes (a b : ByteArray) : (a == b) = (a.data.toList == b.data.toList) := by
  rw [beq_toListBytes, ByteArray.toList_eq, ByteArray.toList_eq]
theorem sameNow_sound [E : Env] {t : TypeId} {k k' : AV} {d : TypeDesc} {r : Bool} (hu : P.underlying t = some d) (hk : keyFits P t k = true) (h : eqLeafA k k' = some r) : Instr.sameNow d (k.conc ι) (k'.conc ι) = some r := by
  unfold keyFits at hk
  rw [hu] at hk
  cases k <;> cases k' <;> simp only [eqLeafA] at h <;> (try (cases h; done)) <;> cases d <;> simp at hk <;> simp only [AV.conc, Instr.sameNow]
  · exact h
  · exact h
  · rw [beq_bytes]; exact h
theorem eqLeafA_true {k k' : AV} (h : eqLeafA k k' = some true) : k'.conc ι = k.conc ι := by
  cases k <;> cases k' <;> simp only [eqLeafA] at h <;> (try (cases h; done))
  · simp at h; subst h; rfl
  · split at h
    · rename_i hk; simp at h; subst hk; subst h; rfl
    · cases h
  · simp only [Option.some.injEq, beq_iff_eq] at h
    simp only [AV.conc]
    rw [Go.WideShapes.bytes_inj h]
def entryOf (ι : Inj) (e : AV × AV × Nat) : MapEntry := { key := e.1.conc ι, val := e.2.1.conc ι, born := e.2.2 }
theorem findA_sound [E : Env] {t : TypeId} {d : TypeDesc} {k : AV} (hu : P.underlying t = some d) (hk : keyFits P t k = true) : ∀ (es : List (AV × AV × Nat)) (i : Nat) (r : Option (Nat × AV × Nat)), findA k es i = some r →
    Instr.findNow d (k.conc ι) (es.map (entryOf ι)) i = some (r.map fun x => (x.1, x.2.1.conc ι)) ∧
      ∀ x, r = some x → i ≤ x.1 ∧ ∃ k', es[x.1 - i]? = some (k', x.2.1, x.2.2) ∧ k'.conc ι = k.conc ι
  | [], i, r, h => by simp only [findA] at h; cases h; exact ⟨rfl, fun x hx => by cases hx⟩
  | (k', v, born) :: es, i, r, h => by
    simp only [findA] at h
    cases he : eqLeafA k k' with
    | none => simp [he] at h
    | some b =>
      have hsn := sameNow_sound (ι := ι) hu hk he
      cases b with
      | true =>
        simp only [he] at h
        cases h
        refine ⟨by simp [Instr.findNow, entryOf, hsn], fun x hx => ?_⟩
        cases hx
        exact ⟨Nat.le_refl _, k', by simp, eqLeafA_true he⟩
      | false =>
        simp only [he] at h
        obtain ⟨h1, h2⟩ := findA_sound hu hk es (i + 1) r h
        refine ⟨by simp [Instr.findNow, entryOf, hsn]; exact h1, fun x hx => ?_⟩
        obtain ⟨hle, k2, hk2, hc⟩ := h2 x hx
        refine ⟨by omega, k2, ?_, hc⟩
        rw [show x.1 - i = (x.1 - (i + 1)) + 1 by omega]
        simpa using hk2
theorem checkKey_sound {t : TypeId} {k : AV} (hk : keyFits P t k = true) (b : Bool) : (Instr.checkKey b 10000 t (k.conc ι)).run P w = .ok () w := by
  have e : (10000 : Nat) = 9999 + 1 := rfl
  rw [e]; generalize 9999 = n
  unfold keyFits at hk
  split at hk <;> (try (cases hk; done)) <;> (rename_i hu; simp [Instr.checkKey, run_underlying hu, AV.conc])
theorem findKey_sound [E : Env] {t : TypeId} {k : AV} (hk : keyFits P t k = true) {es : List (AV × AV × Nat)} {r : Option (Nat × AV × Nat)} (h : findA k es 0 = some r) :
    (Instr.findKey t (k.conc ι) (mapEntries ι es).toList).run P w = .ok (r.map fun x => (x.1, x.2.1.conc ι)) w := by
  have hd : ∃ d, P.underlying t = some d := by
    unfold keyFits at hk
    cases hu : P.underlying t with
    | none => simp [hu] at hk
    | some d => exact ⟨d, rfl⟩
  obtain ⟨d, hu⟩ := hd
  have := (findA_sound (ι := ι) hu hk es 0 r h).1
  have e : (mapEntries ι es).toList = es.map (entryOf ι) := by simp [mapEntries]; intro a b c _; rfl
  simp only [Instr.findKey, Sem.run_bind, run_underlying hu, Result.andThen_ok, e, this, Sem.run_pure]
theorem run_getObj_map {b : Nat} {es : Array MapEntry} {c : Nat} (h : w.heap[b]? = some (.map es c)) : (getObj b).run P w = .ok (.map es c) w := by
  simp [getObj, Sem.run, h]

theorem lookupA_sound [E : Env] (s : Sim P w0 base ι H w) {t : TypeId} {m k v : AV} {ok : Bool} (h : lookupA P H t m k ok = some v) :
    (Instr.lookup t (m.conc ι) (k.conc ι) ok).run P w = .ok (v.conc ι) w ∧ v.OK w0 base H.next := by
  unfold lookupA at h
  cases hu : P.underlying t with
  | none => simp [hu] at h
  | some d =>
  cases d <;> simp only [hu] at h <;> try (cases h; done)
  rename_i kt et
  have key : ∀ (es : List (AV × AV × Nat)), (∀ e ∈ es, e.2.1.OK w0 base H.next) → ∀ z, zeroA P et = some z → (if keyFits P kt k then match findA k es 0 with
      | some r => let (v, is) := match r with | some (_, v, _) => (v, true) | none => (z, false); some (if ok then AV.tup [v, .bool is] else v)
      | none => none
      else none) = some v →
      (∀ b, (Instr.checkKey b 10000 kt (k.conc ι)).run P w = .ok () w) ∧ v.OK w0 base H.next ∧ ∃ r, (Instr.findKey kt (k.conc ι) (mapEntries ι es).toList).run P w = .ok r w ∧
        ((∃ i y, r = some (i, y) ∧ v.conc ι = if ok then .tuple #[y, .bool true] else y) ∨ (r = none ∧ v.conc ι = if ok then .tuple #[z.conc ι, .bool false] else z.conc ι)) := by
    intro es hOK z hz h
    split at h
    · rename_i hk
      cases hf : findA k es 0 with
      | none => simp [hf] at h
      | some r =>
        simp only [hf] at h
        have hfk := findKey_sound (ι := ι) (w := w) hk hf
        refine ⟨fun b => checkKey_sound hk b, ?_⟩
        have hd : ∃ d, P.underlying kt = some d := by
          unfold keyFits at hk
          cases hu : P.underlying kt with
          | none => simp [hu] at hk
          | some d => exact ⟨d, rfl⟩
        obtain ⟨dk, huk⟩ := hd
        cases r with
        | none =>
          cases h
          refine ⟨?_, _, hfk, .inr ⟨rfl, ?_⟩⟩
          · cases ok
            · exact OK.mono (Nat.zero_le _) _ (OK_zeroA hz)
            · simp only [if_true, AV.OK, AV.OKL]
              exact ⟨OK.mono (Nat.zero_le _) _ (OK_zeroA hz), trivial, trivial⟩
          · cases ok <;> simp [AV.conc, AV.concL]
        | some x =>
          obtain ⟨i, y, born⟩ := x
          cases h
          obtain ⟨_, k', hk', _⟩ := (findA_sound (ι := ι) huk hk es 0 _ hf).2 _ rfl
          have hyOK := hOK _ (List.mem_of_getElem? hk')
          refine ⟨?_, _, hfk, .inl ⟨i, _, rfl, ?_⟩⟩
          · cases ok
            · exact hyOK
            · simp only [if_true, AV.OK, AV.OKL]
              exact ⟨hyOK, trivial, trivial⟩
          · cases ok <;> simp [AV.conc, AV.concL]
    · cases h
  cases hz : zeroA P et with
  | none => simp [hz] at h
  | some z =>
  cases m <;> simp only [hz] at h <;> try (cases h; done)
  rename_i b
  cases b with
  | none =>
    simp only [] at h
    obtain ⟨h1, h2, r, h3, h4⟩ := key [] (by simp) z hz h
    refine ⟨?_, h2⟩
    have h3' : (Instr.findKey kt (k.conc ι) []).run P w = .ok r w := by simpa [mapEntries] using h3
    rcases h4 with ⟨i, y, rfl, h4⟩ | ⟨rfl, h4⟩
    · rw [h4]; simp [Instr.lookup, run_underlying hu, AV.conc, h1, h3']
    · rw [h4]; simp [Instr.lookup, run_underlying hu, AV.conc, h1, h3', run_zeroA hz ι]
  | some b =>
    simp only [] at h
    split at h
    · rename_i es z' e1 e2
      cases e2
      split at e1
      · rename_i es' c hb
        cases e1
        have hr := s.rel b _ hb
        simp only [BlkRel] at hr
        obtain ⟨h1, h2, r, h3, h4⟩ := key es (fun e he => (s.ok b _ hb e he).2) z hz h
        refine ⟨?_, h2⟩
        rcases h4 with ⟨i, y, rfl, h4⟩ | ⟨rfl, h4⟩
        · rw [h4]; simp [Instr.lookup, run_underlying hu, AV.conc, run_getObj_map hr, h1, h3]
        · rw [h4]; simp [Instr.lookup, run_underlying hu, AV.conc, run_getObj_map hr, h1, h3, run_zeroA hz ι]
      · cases e1
    · cases h
end
end Go.Ab
/-! The abstract interpreter is sound, 8: writing maps; all operations that are no calls of Go functions. Conditions: none. -/
set_option linter.unusedSimpArgs false
set_option linter.unusedVariables false
namespace Go.Ab
open Go Go.RowKit
section
variable {P : Program} {w0 : World} {base lo : Nat} {ι ι1 ι2 : Inj} {H H1 H2 : Heap} {w w1 w2 : World}

theorem run_setObj (r : Nat) (o x : Obj) (hx : w.heap[r]? = some x) (hn : ∀ c t f, x ≠ .cells c t f) : (setObj r o).run P w = .ok () { w with heap := w.heap.setIfInBounds r o } := by
  unfold setObj
  simp only [Sem.run, hx]
/-- an object that is no cells is put in place of one -/
theorem Post.putObj [E : Env] (s : Sim P w0 base ι H w) {b : Nat} {x : Blk} (hx : H.get b = some x) (y : Blk) (o : Obj) (hlo : lo ≤ b) (hok : BlkOK w0 base H.next y) (hrel : BlkRel P ι (ι b).2 (some o) y) :
    Post P w0 base lo ι H w ι (H.set b y) { w with heap := w.heap.setIfInBounds (ι b).1 o } :=
  Post.put s hx y _ hlo ⟨rfl, rfl, rfl, by simp⟩ (fun r hr => Array.getElem?_setIfInBounds_ne (fun e => hr e.symm)) hok (by
    rw [Array.getElem?_setIfInBounds_self_of_lt (s.blt hx)]; exact hrel)

theorem mapEntries_set (es : List (AV × AV × Nat)) (i : Nat) (e : AV × AV × Nat) : mapEntries ι (es.set i e) = (mapEntries ι es).setIfInBounds i (entryOf ι e) := by
  apply Array.ext'
  simp [mapEntries, List.map_set, entryOf]
theorem mapEntries_push (es : List (AV × AV × Nat)) (e : AV × AV × Nat) : mapEntries ι (es ++ [e]) = (mapEntries ι es).push (entryOf ι e) := by
  apply Array.ext'
  simp [mapEntries, entryOf]
theorem mapEntries_get (es : List (AV × AV × Nat)) (i : Nat) : (mapEntries ι es)[i]? = (es[i]?).map (entryOf ι) := by
  simp [mapEntries]; rfl
theorem modify_eq_set (a : Array MapEntry) (i : Nat) (f : MapEntry → MapEntry) (x : MapEntry) (h : a[i]? = some x) : a.modify i f = a.setIfInBounds i (f x) := by
  apply Array.ext_getElem?
  intro j
  rw [Array.getElem?_modify]
  by_cases e : i = j
  · subst e
    have hi := (Array.getElem?_eq_some_iff.1 h).1
    rw [if_pos rfl, h, Array.getElem?_setIfInBounds_self_of_lt hi]; rfl
  · rw [if_neg e, Array.getElem?_setIfInBounds_ne e]

theorem sameBits_of_key [E : Env] {t : TypeId} {k : AV} (hk : keyFits P t k = true) : Instr.sameBits 10000 (k.conc ι) (k.conc ι) = true := by
  have e : (10000 : Nat) = 9999 + 1 := rfl
  rw [e]; generalize 9999 = n
  unfold keyFits at hk
  split at hk <;> (try (cases hk; done)) <;> (simp [AV.conc, Instr.sameBits]; try (rw [beq_bytes]; simp))
theorem keyFits_desc {t : TypeId} {k : AV} (hk : keyFits P t k = true) : ∃ d, P.underlying t = some d := by
  unfold keyFits at hk
  cases hu : P.underlying t with
  | none => simp [hu] at hk
  | some d => exact ⟨d, rfl⟩

/-- what a store into a map knows -/
theorem atKey [E : Env] (s : Sim P w0 base ι H w) {b : Nat} {es : List (AV × AV × Nat)} {clock : Nat} (hb : H.get b = some (.map es clock)) {kt : TypeId} {k : AV} (hk : keyFits P kt k = true) :
    w.heap[(ι b).1]? = some (.map (mapEntries ι es) clock) ∧ (∀ e, (Instr.checkKey e 10000 kt (k.conc ι)).run P w = .ok () w) ∧
    (∀ i v born, findA k es 0 = some (some (i, v, born)) → (Instr.findKey kt (k.conc ι) (mapEntries ι es).toList).run P w = .ok (some (i, v.conc ι)) w ∧
      ∃ k', es[i]? = some (k', v, born) ∧ (mapEntries ι es)[i]? = some { key := k.conc ι, val := v.conc ι, born := born }) ∧
    (findA k es 0 = some none → (Instr.findKey kt (k.conc ι) (mapEntries ι es).toList).run P w = .ok none w) := by
  obtain ⟨d, hu⟩ := keyFits_desc hk
  have hr := s.rel b _ hb
  simp only [BlkRel] at hr
  refine ⟨hr, fun e => checkKey_sound hk e, fun i v born hf => ?_, fun hf => ?_⟩
  · refine ⟨by simpa using findKey_sound (ι := ι) (w := w) hk hf, ?_⟩
    obtain ⟨_, k', hk', hc⟩ := (findA_sound (ι := ι) hu hk es 0 _ hf).2 _ rfl
    simp only [Nat.sub_zero] at hk'
    exact ⟨k', hk', by rw [mapEntries_get, hk']; simp [entryOf, hc]⟩
  · simpa using findKey_sound (ι := ι) (w := w) hk hf

theorem keeps_key {a : MapEntry} {k : Value} (ha : a.key = k) (hs : Instr.sameBits 10000 k k = true) : (Instr.keyThatStays a.key k).run P w = .ok k w := by
  rw [ha]; simp [Instr.keyThatStays, hs]

theorem mapUpdateA_sound [E : Env] (s : Sim P w0 base ι H w) {t : TypeId} {m k v : AV} {H' : Heap} (h : mapUpdateA P lo H t m k v = some H') (hk : k.OK w0 base H.next) (hv : v.OK w0 base H.next) :
    ∃ w', (Instr.mapUpdate t (m.conc ι) (k.conc ι) (v.conc ι)).run P w = .ok () w' ∧ Post P w0 base lo ι H w ι H' w' := by
  unfold mapUpdateA at h
  split at h
  · rename_i kt et b hu
    split at h
    · rename_i es clock hb
      split at h
      · rename_i hc
        simp only [Bool.and_eq_true, decide_eq_true_eq] at hc
        obtain ⟨hlo, hkf⟩ := hc
        obtain ⟨hr, hck, hfound, hnone⟩ := atKey s hb hkf
        have hOKes := s.ok b _ hb
        split at h
        · rename_i i y born hf
          cases h
          obtain ⟨hfk, k', hk', he⟩ := hfound i y born hf
          have hpost := Post.putObj (lo := lo) s hb (.map (es.set i (k, v, born)) clock) (.map ((mapEntries ι es).setIfInBounds i { key := k.conc ι, val := v.conc ι, born := born }) clock) hlo
            (fun e he => by
              rcases List.mem_or_eq_of_mem_set he with he | rfl
              · exact hOKes e he
              · exact ⟨hk, hv⟩) (by simp only [BlkRel]; rw [mapEntries_set]; rfl)
          refine ⟨_, ?_, hpost⟩
          have hkk : (Instr.keyThatStays (((mapEntries ι es)[i]?.map (·.key)).getD (k.conc ι)) (k.conc ι)).run P w = .ok (k.conc ι) w := by
            rw [he]; exact keeps_key (a := { key := k.conc ι, val := y.conc ι, born := born }) rfl (sameBits_of_key hkf)
          simp only [Instr.mapUpdate, Sem.run_bind, run_underlying hu, Result.andThen_ok, AV.conc, run_getObj_map hr, hck, hfk, hkk]
          rw [modify_eq_set _ _ _ _ he]
          exact run_setObj _ _ _ hr (by simp)
        · rename_i hf
          cases h
          have hfk := hnone hf
          have hpost := Post.putObj (lo := lo) s hb (.map (es ++ [(k, v, clock)]) (clock + 1)) (.map ((mapEntries ι es).push { key := k.conc ι, val := v.conc ι, born := clock }) (clock + 1)) hlo
            (fun e he => by
              rcases List.mem_append.1 he with he | he
              · exact hOKes e he
              · rw [List.mem_singleton.1 he]; exact ⟨hk, hv⟩) (by simp only [BlkRel]; rw [mapEntries_push]; rfl)
          refine ⟨_, ?_, hpost⟩
          simp only [Instr.mapUpdate, Sem.run_bind, run_underlying hu, Result.andThen_ok, AV.conc, run_getObj_map hr, hck, hfk]
          exact run_setObj _ _ _ hr (by simp)
        · cases h
      · cases h
    · cases h
  · cases h

theorem mapEntryA_sound [E : Env] (s : Sim P w0 base ι H w) {t : TypeId} {m k v : AV} {H' : Heap} (h : mapEntryA P lo H t m k = some (v, H')) (hk : k.OK w0 base H.next) :
    ∃ w', (Instr.mapEntry t (m.conc ι) (k.conc ι)).run P w = .ok (v.conc ι) w' ∧ Post P w0 base lo ι H w ι H' w' ∧ v.OK w0 base H'.next := by
  unfold mapEntryA at h
  split at h
  · rename_i kt et b hu
    split at h
    · rename_i es clock z hb hz
      split at h
      · rename_i hc
        simp only [Bool.and_eq_true, decide_eq_true_eq] at hc
        obtain ⟨hlo, hkf⟩ := hc
        obtain ⟨hr, hck, hfound, hnone⟩ := atKey s hb hkf
        have hOKes := s.ok b _ hb
        split at h
        · rename_i i y born hf
          cases h
          obtain ⟨hfk, k', hk', he⟩ := hfound i y born hf
          have hyOK := (hOKes _ (List.mem_of_getElem? hk')).2
          have hpost := Post.putObj (lo := lo) s hb (.map (es.set i (k, y, born)) clock) (.map ((mapEntries ι es).setIfInBounds i { key := k.conc ι, val := y.conc ι, born := born }) clock) hlo
            (fun e he => by
              rcases List.mem_or_eq_of_mem_set he with he | rfl
              · exact hOKes e he
              · exact ⟨hk, hyOK⟩) (by simp only [BlkRel]; rw [mapEntries_set]; rfl)
          refine ⟨_, ?_, hpost, by simp only [AV.OK, AV.OKL]; exact ⟨hyOK, trivial, trivial⟩⟩
          have hkk : (Instr.keyThatStays (((mapEntries ι es)[i]?.map (·.key)).getD (k.conc ι)) (k.conc ι)).run P w = .ok (k.conc ι) w := by
            rw [he]; exact keeps_key (a := { key := k.conc ι, val := y.conc ι, born := born }) rfl (sameBits_of_key hkf)
          simp only [Instr.mapEntry, Sem.run_bind, run_underlying hu, Result.andThen_ok, AV.conc, run_getObj_map hr, hck, hfk, hkk]
          rw [modify_eq_set _ _ _ _ he, run_setObj _ _ _ hr (by simp)]
          simp [he, goInt, AV.concL, AV.conc]
        · rename_i hf
          cases h
          have hfk := hnone hf
          have hzOK : z.OK w0 base H.next := OK.mono (Nat.zero_le _) _ (OK_zeroA hz)
          have hpost := Post.putObj (lo := lo) s hb (.map (es ++ [(k, z, clock)]) (clock + 1)) (.map ((mapEntries ι es).push { key := k.conc ι, val := z.conc ι, born := clock }) (clock + 1)) hlo
            (fun e he => by
              rcases List.mem_append.1 he with he | he
              · exact hOKes e he
              · rw [List.mem_singleton.1 he]; exact ⟨hk, hzOK⟩) (by simp only [BlkRel]; rw [mapEntries_push]; rfl)
          refine ⟨_, ?_, hpost, by simp only [AV.OK, AV.OKL]; exact ⟨hzOK, trivial, trivial⟩⟩
          simp only [Instr.mapEntry, Sem.run_bind, run_underlying hu, Result.andThen_ok, AV.conc, run_getObj_map hr, hck, hfk, run_zeroA hz ι, run_setObj _ _ _ hr (by simp)]
          simp [goInt, AV.concL, AV.conc]
        · cases h
      · cases h
    · cases h
  · cases h

theorem entryStoreA_sound [E : Env] (s : Sim P w0 base ι H w) {t : TypeId} {m k v : AV} {H' : Heap} (h : entryStoreA lo H m k v = some H') (hv : v.OK w0 base H.next) :
    ∃ w', (Instr.entryStore t (m.conc ι) (k.conc ι) (v.conc ι)).run P w = .ok () w' ∧ Post P w0 base lo ι H w ι H' w' := by
  unfold entryStoreA at h
  split at h
  · rename_i b n
    split at h
    · rename_i es clock hb
      split at h
      · rename_i hlo
        split at h
        · rename_i i hi
          split at h
          · rename_i k y born he
            cases h
            have hr := s.rel b _ hb
            simp only [BlkRel] at hr
            have hOKes := s.ok b _ hb
            have hEi : (mapEntries ι es)[i]? = some (entryOf ι (k, y, born)) := by rw [mapEntries_get, he]; rfl
            have hpost := Post.putObj (lo := lo) s hb (.map (es.set i (k, v, born)) clock) (.map ((mapEntries ι es).setIfInBounds i { key := k.conc ι, val := v.conc ι, born := born }) clock) hlo
              (fun e he' => by
                rcases List.mem_or_eq_of_mem_set he' with he' | rfl
                · exact hOKes e he'
                · exact ⟨(hOKes _ (List.mem_of_getElem? he)).1, hv⟩) (by simp only [BlkRel]; rw [mapEntries_set]; rfl)
            refine ⟨_, ?_, hpost⟩
            have hidx : (mapEntries ι es).findIdx? (fun e => (e.born : Int) == n) = some i := by
              rw [← hi]
              simp only [mapEntries, List.findIdx?_toArray, List.findIdx?_map]
              rfl
            simp only [Instr.entryStore, AV.conc, pure_bind, Sem.run_bind, run_getObj_map hr, Result.andThen_ok, asInt, asIntOf, hidx]
            rw [modify_eq_set _ _ _ _ hEi]
            exact run_setObj _ _ _ hr (by simp)
          · cases h
        · cases h
      · cases h
    · cases h
  · cases h

/-! ### all operations that are no calls -/
/-- what the operand gives in both -/
def Ev [E : Env] (w0 : World) (base n : Nat) (ι : Inj) (env : List AV) (ρ : Operand → Value) (x : Operand) : Prop := ∀ v, evalO env x = some v → ρ x = v.conc ι ∧ v.OK w0 base n

theorem evalL_sound [E : Env] {n : Nat} {env : List AV} {ρ : Operand → Value} : ∀ (xs : List Operand) (l : List AV), evalL env xs = some l → (∀ x ∈ xs, Ev w0 base n ι env ρ x) →
    xs.map ρ = l.map (AV.conc ι) ∧ ∀ v ∈ l, v.OK w0 base n
  | [], l, h, _ => by simp only [evalL] at h; cases h; exact ⟨rfl, by simp⟩
  | x :: xs, l, h, hE => by
    simp only [evalL] at h
    split at h
    · rename_i v l' hv hl
      cases h
      obtain ⟨h1, h2⟩ := evalL_sound xs l' hl (fun y hy => hE y (by simp [hy]))
      obtain ⟨h3, h4⟩ := hE x (by simp) v hv
      refine ⟨by simp [h1, h3], fun y hy => ?_⟩
      rcases List.mem_cons.1 hy with rfl | hy
      · exact h4
      · exact h2 y hy
    · cases h
theorem evalParts_sound [E : Env] {n : Nat} {env : List AV} {ρ : Operand → Value} : ∀ (xs : List (Nat × Operand)) (l : List (Nat × AV)), evalParts env xs = some l → (∀ p ∈ xs, Ev w0 base n ι env ρ p.2) →
    xs.map (fun p => (p.1, ρ p.2)) = l.map (fun p => (p.1, p.2.conc ι)) ∧ ∀ p ∈ l, p.2.OK w0 base n
  | [], l, h, _ => by simp only [evalParts] at h; cases h; exact ⟨rfl, by simp⟩
  | (i, x) :: xs, l, h, hE => by
    simp only [evalParts] at h
    split at h
    · rename_i v l' hv hl
      cases h
      obtain ⟨h1, h2⟩ := evalParts_sound xs l' hl (fun y hy => hE y (by simp [hy]))
      obtain ⟨h3, h4⟩ := hE (i, x) (by simp) v hv
      refine ⟨by simp [h1, h3], fun y hy => ?_⟩
      rcases List.mem_cons.1 hy with rfl | hy
      · exact h4
      · exact h2 y hy
    · cases h

/-- what an operation's run ends in -/
def Done [E : Env] (P : Program) (w0 : World) (base lo : Nat) (ι : Inj) (H : Heap) (w : World) (n : Sem Next) (v : AV) (H' : Heap) : Prop :=
  ∃ ι' w', (n.run P w = .ok (.value (v.conc ι')) w' ∨ (v = undefA ∧ n.run P w = .ok .skip w')) ∧ Post P w0 base lo ι H w ι' H' w' ∧ v.OK w0 base H'.next

theorem Done.val [E : Env] {n : Sem Next} {x : Sem Value} {v : AV} (s : Sim P w0 base ι H w) (hn : n = (do pure (.value (← x)))) (h : x.run P w = .ok (v.conc ι) w ∧ v.OK w0 base H.next) : Done P w0 base lo ι H w n v H :=
  ⟨ι, w, .inl (by rw [hn]; simp [h.1]), Post.refl s, h.2⟩
theorem Done.leaf [E : Env] {n : Sem Next} {x : Sem Value} {v : AV} (s : Sim P w0 base ι H w) (hn : n = (do pure (.value (← x)))) (h : x.run P w = .ok (v.conc ι) w ∧ leafA v = true ∧ scal v = true) : Done P w0 base lo ι H w n v H :=
  Done.val s hn ⟨h.1, scal_OK h.2.2⟩
theorem Done.made [E : Env] {n : Sem Next} {x : Sem Value} {v : AV} {H' : Heap} (hn : n = (do pure (.value (← x))))
    (h : ∃ ι' w', x.run P w = .ok (v.conc ι') w' ∧ Post P w0 base lo ι H w ι' H' w' ∧ v.OK w0 base H'.next) : Done P w0 base lo ι H w n v H' := by
  obtain ⟨ι', w', h1, h2, h3⟩ := h
  exact ⟨ι', w', .inl (by rw [hn]; simp [h1]), h2, h3⟩
theorem Done.unit [E : Env] {n : Sem Next} {x : Sem Unit} {H' : Heap} (hn : n = (do x; pure .skip)) (h : ∃ ι' w', x.run P w = .ok () w' ∧ Post P w0 base lo ι H w ι' H' w') : Done P w0 base lo ι H w n undefA H' := by
  obtain ⟨ι', w', h1, h2⟩ := h
  exact ⟨ι', w', .inr ⟨rfl, by rw [hn]; simp [h1]⟩, h2, by simp [undefA, AV.OK, AV.OKL]⟩

theorem newVar_sound [E : Env] (s : Sim P w0 base ι H w) {t : TypeId} {z : AV} {sz : Nat} (hs : sizeA P t = some sz) (hz : z.cells.length = sz) (hOK : z.OK w0 base H.next) (hlo : lo ≤ H.next) :
    ∃ ι' w', (do pure (.pointer (some (← newVar t (z.conc ι)))) : Sem Value).run P w = .ok ((AV.ptr H.next 0).conc ι') w' ∧ Post P w0 base lo ι H w ι' (H.push (.cells t z.cells)) w' ∧ (AV.ptr H.next 0).OK w0 base (H.push (.cells t z.cells)).next := by
  have ha := Post.alloc (lo := lo) s (.cells t z.cells) (.cells (z.conc ι).cells t) 1 (OK_cells hOK) ⟨_, rfl, ⟨[], by rw [conc_cells, List.append_nil]⟩, by rw [size_cells, hz, cellsOf_sizeA hs, Nat.one_mul]⟩ hlo
  refine ⟨_, _, ?_, ha, by simp [AV.OK]⟩
  simp [newVar, newRow, newObj, Sem.run, AV.conc]

theorem extract_sound [E : Env] {vs : List AV} {i : Nat} {v : AV} (h : vs[i]? = some v) (hok : (AV.tup vs).OK w0 base H.next) : (Instr.extract ((AV.tup vs).conc ι) i).run P w = .ok (v.conc ι) w ∧ v.OK w0 base H.next := by
  simp only [AV.OK] at hok
  refine ⟨?_, (OKL_iff ..).1 hok v (List.mem_of_getElem? h)⟩
  simp [Instr.extract, AV.conc, concL_eq, h]

theorem bind1 {α β : Type} {x : Option α} {f : α → Option β} {r : β} (h : x.bind f = some r) : ∃ a, x = some a ∧ f a = some r := by
  cases x with
  | none => simp at h
  | some a => exact ⟨a, rfl, h⟩
theorem map1 {α β : Type} {x : Option α} {f : α → β} {r : β} (h : x.map f = some r) : ∃ a, x = some a ∧ f a = r := Option.map_eq_some_iff.1 h

set_option maxHeartbeats 4000000 in
theorem aop_sound [E : Env] (s : Sim P w0 base ι H w) {env : List AV} {o : Oper} {v : AV} {H' : Heap} (h : aop P lo env H o = some (v, H')) (ρ : Operand → Value)
    (hE : ∀ x ∈ o.op.operands, Ev w0 base H.next ι env ρ x) (hlo : lo ≤ H.next) : Done P w0 base lo ι H w (execOp ρ o) v H' := by
  obtain ⟨dst, op, type, pos, after, guard⟩ := o
  simp only at hE
  cases op with
  | move x =>
    obtain ⟨a, ha, e⟩ := map1 h; cases e
    obtain ⟨h1, h2⟩ := hE x (by simp [Op.operands]) v ha
    exact ⟨ι, w, .inl (by simp [execOp, h1]), Post.refl s, h2⟩
  | assign x =>
    obtain ⟨a, ha, e⟩ := map1 h; cases e
    obtain ⟨h1, h2⟩ := hE x (by simp [Op.operands]) v ha
    exact ⟨ι, w, .inl (by simp [execOp, h1]), Post.refl s, h2⟩
  | pick c a b =>
    simp only [aop] at h
    split at h
    · rename_i t hc
      obtain ⟨x, hx, e⟩ := map1 h; cases e
      obtain ⟨h1, _⟩ := hE c (by simp [Op.operands]) _ hc
      have h1' : ρ c = .bool t := by rw [h1]; rfl
      cases t
      · simp only [Bool.false_eq_true, if_false] at hx
        obtain ⟨h3, h4⟩ := hE b (by simp [Op.operands]) _ hx
        exact ⟨ι, w, .inl (by simp [execOp, h1', asBool, h3]), Post.refl s, h4⟩
      · simp only [if_true] at hx
        obtain ⟨h3, h4⟩ := hE a (by simp [Op.operands]) _ hx
        exact ⟨ι, w, .inl (by simp [execOp, h1', asBool, h3]), Post.refl s, h4⟩
    · cases h
  | alloc t =>
    simp only [aop] at h
    cases hz : zeroA P t with
    | none => simp [hz] at h
    | some z =>
      cases hs : sizeA P t with
      | none => simp [hz, hs] at h
      | some sz =>
        simp only [hz, hs] at h
        split at h
        · rename_i hc
          simp only [Bool.and_eq_true, decide_eq_true_eq] at hc
          cases h
          obtain ⟨ι', w', h1, h2, h3⟩ := newVar_sound (lo := lo) s hs hc.1 (OK.mono (Nat.zero_le _) _ (OK_zeroA hz)) hlo
          refine ⟨ι', w', .inl ?_, h2, h3⟩
          simp only [Sem.run_bind, Sem.run_pure] at h1
          simp only [execOp, Instr.alloc, Sem.run_bind, run_zeroA hz ι, Result.andThen_ok, Sem.run_pure]
          rw [h1]; rfl
        · cases h
  | box t x =>
    simp only [aop] at h
    cases hx : evalO env x with
    | none => simp [hx] at h
    | some z =>
      cases hs : sizeA P t with
      | none => simp [hx, hs] at h
      | some sz =>
        simp only [hx, hs] at h
        split at h
        · rename_i hc
          simp only [Bool.and_eq_true, decide_eq_true_eq] at hc
          cases h
          obtain ⟨e1, e2⟩ := hE x (by simp [Op.operands]) z hx
          obtain ⟨ι', w', h1, h2, h3⟩ := newVar_sound (lo := lo) s hs hc.1 e2 hlo
          refine ⟨ι', w', .inl ?_, h2, h3⟩
          simp only [Sem.run_bind, Sem.run_pure] at h1
          simp only [execOp, Instr.box, Sem.run_bind, e1, Sem.run_pure]
          rw [h1]; rfl
        · cases h
  | build t parts =>
    obtain ⟨ps, hps, h⟩ := bind1 h
    obtain ⟨a, ha, e⟩ := map1 h; cases e
    obtain ⟨e1, e2⟩ := evalParts_sound (ι := ι) (ρ := ρ) parts.toList ps hps (fun p hp => hE p.2 (by simp [Op.operands]; exact ⟨p.1, by simpa using hp⟩))
    have := buildA_sound (ι := ι) (w := w) ha e2
    rw [← e1] at this
    refine Done.val s (x := Instr.build t (parts.map fun (i, x) => (i, ρ x))) rfl ?_
    have e3 : (parts.map fun (i, x) => (i, ρ x)) = (parts.toList.map fun p => (p.1, ρ p.2)).toArray := by apply Array.ext'; simp
    rw [e3]; exact this
  | buildSlice t len parts =>
    obtain ⟨ps, hps, h⟩ := bind1 h
    obtain ⟨e1, e2⟩ := evalParts_sound (ι := ι) (ρ := ρ) parts.toList ps hps (fun p hp => hE p.2 (by simp [Op.operands]; exact ⟨p.1, by simpa using hp⟩))
    have := buildSliceA_sound (lo := lo) s h e2 hlo
    rw [← e1] at this
    refine Done.made (x := Instr.buildSlice t len (parts.map fun (i, x) => (i, ρ x))) rfl ?_
    have e3 : (parts.map fun (i, x) => (i, ρ x)) = (parts.toList.map fun p => (p.1, ρ p.2)).toArray := by apply Array.ext'; simp
    rw [e3]; exact this
  | load t a =>
    obtain ⟨x, hx, h⟩ := bind1 h
    obtain ⟨y, hy, e⟩ := map1 h; cases e
    obtain ⟨e1, e2⟩ := hE a (by simp [Op.operands]) x hx
    obtain ⟨A, hA, h1, h2⟩ := loadA_sound s hy e2
    refine Done.val s (x := Instr.loadAt t (ρ a)) rfl ⟨?_, h2⟩
    rw [e1, hA]; simp [Instr.loadAt, Instr.sureAddr, h1]
  | store t a x =>
    obtain ⟨p, hp, h⟩ := bind1 h
    obtain ⟨y, hy, h⟩ := bind1 h
    obtain ⟨H1, hH, e⟩ := map1 h; cases e
    obtain ⟨e1, e2⟩ := hE a (by simp [Op.operands]) p hp
    obtain ⟨e3, e4⟩ := hE x (by simp [Op.operands]) y hy
    unfold storeA at hH
    cases hs : sizeA P t with
    | none => simp [hs] at hH
    | some sz =>
      simp only [hs] at hH
      split at hH
      · rename_i hl
        obtain ⟨A, w', hA, h1, h2⟩ := storeCellsA_sound s hH (OK_cells e4)
        refine Done.unit (x := Instr.storeAt t (ρ a) (ρ x)) rfl ⟨ι, w', ?_, h2⟩
        rw [e1, e3, hA]
        have hl' : (y.conc ι).cells.size = sz := by rw [size_cells, hl]
        simp only [Instr.storeAt, Instr.sureAddr, pure_bind, storeVar, Sem.run_bind, run_sizeA hs, Result.andThen_ok, hl', ne_eq, not_true, if_false, conc_cells]
        exact h1
      · cases hH
  | nilCheck x =>
    simp only [aop] at h
    split at h <;> cases h <;> (rename_i hx; obtain ⟨e1, e2⟩ := hE x (by simp [Op.operands]) _ hx; refine ⟨ι, w, .inl ?_, Post.refl s, e2⟩; simp [execOp, e1, AV.conc])
  | binOp op t x y yt =>
    obtain ⟨a, ha, h⟩ := bind1 h
    obtain ⟨b, hb, h⟩ := bind1 h
    obtain ⟨c, hc, e⟩ := map1 h; cases e
    obtain ⟨e1, _⟩ := hE x (by simp [Op.operands]) a ha
    obtain ⟨e3, _⟩ := hE y (by simp [Op.operands]) b hb
    refine Done.leaf s (x := (do eqGuard op t x y (ρ x) (ρ y); binOp op t (ρ x) (ρ y))) rfl ?_
    rw [e1, e3]; exact binA_sound hc x y
  | unOp op t x =>
    obtain ⟨a, ha, h⟩ := bind1 h
    obtain ⟨c, hc, e⟩ := map1 h; cases e
    obtain ⟨e1, _⟩ := hE x (by simp [Op.operands]) a ha
    refine Done.leaf s (x := Op.unary op (ρ x)) rfl ?_
    rw [e1]; exact unA_sound hc
  | convert src dst' x =>
    obtain ⟨a, ha, h⟩ := bind1 h
    obtain ⟨e1, e2⟩ := hE x (by simp [Op.operands]) a ha
    refine Done.made (x := Go.convert src dst' (ρ x)) rfl ?_
    rw [e1]
    unfold convertA at h
    split at h
    · rename_i sd k k' n hsd hdd
      cases h
      exact ⟨ι, w, by simp [Go.convert, run_underlying hsd, run_underlying hdd, AV.conc, Conv.intToInt], Post.refl s, trivial⟩
    · rename_i b hsd hdd
      cases h
      exact ⟨ι, w, by simp [Go.convert, run_underlying hsd, run_underlying hdd, AV.conc], Post.refl s, trivial⟩
    · rename_i a _ _ _ e hsd hdd
      have hx : (∃ a' c s l, a = .rsl a' c s l) ∨ ∃ b i n s, a = .sl b i n s := by
        cases a <;> simp only at h <;> first | (cases h; done) | exact .inl ⟨_, _, _, _, rfl⟩ | exact .inr ⟨_, _, _, _, rfl⟩
      have h' : (if isU8 P e then match elemsA H 1 a, lenA H a with
        | some cs, some n => if cs.length = n then (match bytesOfA cs with | some l => some (AV.str ⟨l.toArray⟩, H) | none => none) else none
        | _, _ => none
      else none) = some (v, H') := by
        rcases hx with ⟨_, _, _, _, rfl⟩ | ⟨_, _, _, _, rfl⟩ <;> exact h
      split at h'
      · rename_i hu8
        have he8 : P.underlying e = some (.int .u8) := by
          unfold isU8 at hu8
          split at hu8
          · rename_i q; exact q
          · cases hu8
        split at h'
        · rename_i cs n hcs hn
          split at h'
          · rename_i hl
            split at h'
            · rename_i l hb
              cases h'
              refine ⟨ι, w, ?_, Post.refl s, trivial⟩
              have := bytesString_sound s hx hcs hn hl hb e2
              rcases hx with ⟨_, _, _, _, rfl⟩ | ⟨_, _, _, _, rfl⟩
              · simp only [AV.conc] at this ⊢; rw [run_convert_bytes_string w src dst' e _ _ _ hsd he8 hdd, this]
              · simp only [AV.conc] at this ⊢; rw [run_convert_bytes_string w src dst' e _ _ _ hsd he8 hdd, this]
            · cases h'
          · cases h'
        · cases h'
      · cases h'
    · cases h
  | makeInterface t x =>
    simp only [aop] at h
    cases hu : P.underlying t with
    | none => simp [hu] at h
    | some d =>
      have hni : ∀ ms, d ≠ .interface ms := fun ms e => by subst e; simp [hu] at h
      have h' : ((evalO env x).map (AV.iface t)).map (fun v => (v, H)) = some (v, H') := by
        rw [hu] at h
        cases d <;> first | exact h | exact absurd rfl (hni _)
      obtain ⟨y, hy, e⟩ := map1 h'; cases e
      obtain ⟨a, ha, e⟩ := map1 hy; subst e
      obtain ⟨e1, e2⟩ := hE x (by simp [Op.operands]) a ha
      refine Done.val s (x := Instr.makeInterface t (ρ x)) rfl ⟨?_, by simpa only [AV.OK] using e2⟩
      rw [e1]
      simp only [Instr.makeInterface, Sem.run_bind, run_underlying hu, Result.andThen_ok]
      cases d <;> first | rfl | exact absurd rfl (hni _)
  | makeFunc fn first cap =>
    simp only [aop] at h
    cases fn with
    | func f =>
      simp only [] at h
      obtain ⟨a, ha, h⟩ := bind1 h
      obtain ⟨b, hb, h⟩ := bind1 h
      cases h
      obtain ⟨e1, e2⟩ := evalL_sound (ι := ι) (ρ := ρ) first.toList a ha (fun y hy => hE y (by simp [Op.operands]; exact .inl (by simpa using hy)))
      obtain ⟨e3, e4⟩ := evalL_sound (ι := ι) (ρ := ρ) cap.toList b hb (fun y hy => hE y (by simp [Op.operands]; exact .inr (by simpa using hy)))
      refine Done.val s (x := Instr.makeFunc (.func f) (first.map ρ) (cap.map ρ)) rfl ⟨?_, by simp only [AV.OK]; exact ⟨(OKL_iff ..).2 e2, (OKL_iff ..).2 e4⟩⟩
      have e5 : first.map ρ = (a.map (AV.conc ι)).toArray := by rw [← e1]; apply Array.ext'; simp
      have e6 : cap.map ρ = (b.map (AV.conc ι)).toArray := by rw [← e3]; apply Array.ext'; simp
      simp [Instr.makeFunc, AV.conc, concL_eq, e5, e6]
    | _ => simp at h
  | makeMap t r =>
    have hnew : ∃ ι' w', (do pure (.map (some (← newObj (.map #[] 0)))) : Sem Value).run P w = .ok ((AV.map (some H.next)).conc ι') w' ∧ Post P w0 base lo ι H w ι' (H.push (.map [] 0)) w' ∧ (AV.map (some H.next)).OK w0 base (H.push (.map [] 0)).next := by
      have ha := Post.alloc (lo := lo) s (.map [] 0) (.map #[] 0) 0 (by intro e he; simp at he) (by simp [BlkRel, mapEntries]) hlo
      refine ⟨_, _, ?_, ha, by simp [AV.OK]⟩
      simp [newObj, Sem.run, AV.conc]
    obtain ⟨ι', w', h1, h2, h3⟩ := hnew
    simp only [Sem.run_bind, Sem.run_pure] at h1
    cases r with
    | none =>
      simp only [aop] at h
      cases h
      refine ⟨ι', w', .inl ?_, h2, h3⟩
      simp only [execOp, Instr.makeMap, Option.map_none, Sem.run_bind, Sem.run_pure]
      rw [h1]; rfl
    | some x =>
      simp only [aop] at h
      split at h
      · rename_i kt et k n hu hx
        cases h
        obtain ⟨e1, _⟩ := hE x (by simp [Op.operands]) _ hx
        refine ⟨ι', w', .inl ?_, h2, h3⟩
        simp only [execOp, Instr.makeMap, Option.map_some, Sem.run_bind, run_underlying hu, Result.andThen_ok, e1, AV.conc, asInt, asIntOf, pure_bind, Sem.run_pure]
        rw [h1]; rfl
      · cases h
  | makeSlice t l c =>
    obtain ⟨a, ha, h⟩ := bind1 h
    obtain ⟨b, hb, h⟩ := bind1 h
    obtain ⟨e1, _⟩ := hE l (by simp [Op.operands]) a ha
    obtain ⟨e3, _⟩ := hE c (by simp [Op.operands]) b hb
    refine Done.made (x := Instr.makeSlice t (ρ l) (ρ c)) rfl ?_
    rw [e1, e3]; exact makeSliceA_sound s h hlo
  | slice t x l hi mx =>
    simp only [aop] at h
    cases mx with
    | some m => simp at h
    | none =>
      simp only [] at h
      obtain ⟨a, ha, h⟩ := bind1 h
      obtain ⟨e1, e2⟩ := hE x (by simp [Op.operands]) a ha
      have hopt : ∀ (q : Option Operand), (∀ y ∈ q.toArray, Ev w0 base H.next ι env ρ y) → q.map (evalO env) ≠ some none → q.map ρ = ((q.map (evalO env)).bind id).map (AV.conc ι) := by
        intro q hq hn
        cases q with
        | none => rfl
        | some y =>
          cases hy : evalO env y with
          | none => simp [hy] at hn
          | some u =>
            have := hq y (by simp) u hy
            simp [this.1, hy]
      have hl : l.map (evalO env) ≠ some none := by
        intro e; rw [e] at h; simp at h
      have hh : hi.map (evalO env) ≠ some none := by
        intro e; rw [e] at h
        cases hl2 : l.map (evalO env) with
        | none => simp [hl2] at h
        | some q => cases q <;> simp [hl2] at h
      have h' : (sliceA P H t a ((l.map (evalO env)).bind id) ((hi.map (evalO env)).bind id)).map (fun v => (v, H)) = some (v, H') := by
        cases hl2 : l.map (evalO env) with
        | none =>
          cases hh2 : hi.map (evalO env) with
          | none => simpa [hl2, hh2] using h
          | some q => cases q with
            | none => exact absurd hh2 hh
            | some q => simpa [hl2, hh2] using h
        | some q => cases q with
          | none => exact absurd hl2 hl
          | some q =>
            cases hh2 : hi.map (evalO env) with
            | none => simpa [hl2, hh2] using h
            | some q => cases q with
              | none => exact absurd hh2 hh
              | some q => simpa [hl2, hh2] using h
      obtain ⟨y, hy, e⟩ := map1 h'; cases e
      have := sliceA_sound (ι := ι) s hy e2
      rw [← hopt l (fun y hy => hE y (by simp [Op.operands] at hy ⊢; simp [hy])) hl, ← hopt hi (fun y hy => hE y (by simp [Op.operands] at hy ⊢; simp [hy])) hh] at this
      have hna : ∀ n e, P.underlying t ≠ some (.array n e) := by
        intro n e hu
        unfold sliceA at hy
        rw [hu] at hy
        cases a <;> simp at hy
      refine Done.val s (x := Instr.sliceAt t (ρ x) (l.map ρ) (hi.map ρ) none) rfl ⟨?_, this.2⟩
      rw [e1]
      have hat : (Instr.sliceAt t (a.conc ι) (l.map ρ) (hi.map ρ) none).run P w = (Instr.slice t (a.conc ι) (l.map ρ) (hi.map ρ) none).run P w := by
        unfold Instr.sliceAt
        cases hu : P.underlying t with
        | none => unfold sliceA at hy; rw [hu] at hy; cases a <;> simp at hy
        | some d =>
          simp only [Sem.run_bind, run_underlying hu, Result.andThen_ok]
          cases d <;> first | rfl | exact absurd hu (hna _ _)
      rw [hat]; exact this.1
  | fieldAddr t x i =>
    obtain ⟨a, ha, h⟩ := bind1 h
    obtain ⟨c, hc, e⟩ := map1 h; cases e
    obtain ⟨e1, e2⟩ := hE x (by simp [Op.operands]) a ha
    refine Done.val s (x := Instr.fieldAt t (ρ x) i) rfl ?_
    rw [e1]; exact fieldAddrA_sound hc e2
  | field t x i =>
    obtain ⟨a, ha, h⟩ := bind1 h
    obtain ⟨c, hc, e⟩ := map1 h; cases e
    obtain ⟨e1, e2⟩ := hE x (by simp [Op.operands]) a ha
    refine Done.val s (x := Instr.field t (ρ x) i) rfl ?_
    rw [e1]; exact fieldA_sound hc e2
  | indexAddr t x i =>
    obtain ⟨a, ha, h⟩ := bind1 h
    obtain ⟨b, hb, h⟩ := bind1 h
    obtain ⟨c, hc, e⟩ := map1 h; cases e
    obtain ⟨e1, e2⟩ := hE x (by simp [Op.operands]) a ha
    obtain ⟨e3, _⟩ := hE i (by simp [Op.operands]) b hb
    refine Done.val s (x := Instr.indexAt t (ρ x) (ρ i)) rfl ?_
    rw [e1, e3]; exact indexAddrA_sound hc e2
  | index t x i =>
    obtain ⟨a, ha, h⟩ := bind1 h
    obtain ⟨b, hb, h⟩ := bind1 h
    obtain ⟨c, hc, e⟩ := map1 h; cases e
    obtain ⟨e1, e2⟩ := hE x (by simp [Op.operands]) a ha
    obtain ⟨e3, _⟩ := hE i (by simp [Op.operands]) b hb
    refine Done.val s (x := Instr.index t (ρ x) (ρ i)) rfl ?_
    rw [e1, e3]; exact indexA_sound hc e2
  | lookup t x i ok =>
    obtain ⟨a, ha, h⟩ := bind1 h
    obtain ⟨b, hb, h⟩ := bind1 h
    obtain ⟨c, hc, e⟩ := map1 h; cases e
    obtain ⟨e1, e2⟩ := hE x (by simp [Op.operands]) a ha
    obtain ⟨e3, _⟩ := hE i (by simp [Op.operands]) b hb
    refine Done.val s (x := Instr.lookup t (ρ x) (ρ i) ok) rfl ?_
    rw [e1, e3]; exact lookupA_sound s hc
  | mapUpdate t m k x =>
    obtain ⟨a, ha, h⟩ := bind1 h
    obtain ⟨b, hb, h⟩ := bind1 h
    obtain ⟨c, hc, h⟩ := bind1 h
    obtain ⟨H1, hH, e⟩ := map1 h; cases e
    obtain ⟨e1, _⟩ := hE m (by simp [Op.operands]) a ha
    obtain ⟨e3, e4⟩ := hE k (by simp [Op.operands]) b hb
    obtain ⟨e5, e6⟩ := hE x (by simp [Op.operands]) c hc
    obtain ⟨w', h1, h2⟩ := mapUpdateA_sound s hH e4 e6
    exact Done.unit (x := Instr.mapUpdate t (ρ m) (ρ k) (ρ x)) rfl ⟨ι, w', by rw [e1, e3, e5]; exact h1, h2⟩
  | insert t m k x =>
    obtain ⟨a, ha, h⟩ := bind1 h
    obtain ⟨b, hb, h⟩ := bind1 h
    obtain ⟨c, hc, h⟩ := bind1 h
    obtain ⟨H1, hH, e⟩ := map1 h; cases e
    obtain ⟨e1, _⟩ := hE m (by simp [Op.operands]) a ha
    obtain ⟨e3, e4⟩ := hE k (by simp [Op.operands]) b hb
    obtain ⟨e5, e6⟩ := hE x (by simp [Op.operands]) c hc
    obtain ⟨w', h1, h2⟩ := mapUpdateA_sound s hH e4 e6
    exact Done.unit (x := Instr.mapUpdate t (ρ m) (ρ k) (ρ x)) rfl ⟨ι, w', by rw [e1, e3, e5]; exact h1, h2⟩
  | mapEntry t m k =>
    obtain ⟨a, ha, h⟩ := bind1 h
    obtain ⟨b, hb, h⟩ := bind1 h
    obtain ⟨e1, _⟩ := hE m (by simp [Op.operands]) a ha
    obtain ⟨e3, e4⟩ := hE k (by simp [Op.operands]) b hb
    obtain ⟨w', h1, h2, h3⟩ := mapEntryA_sound s h e4
    exact Done.made (x := Instr.mapEntry t (ρ m) (ρ k)) rfl ⟨ι, w', by rw [e1, e3]; exact h1, h2, h3⟩
  | entryStore t m k x =>
    obtain ⟨a, ha, h⟩ := bind1 h
    obtain ⟨b, hb, h⟩ := bind1 h
    obtain ⟨c, hc, h⟩ := bind1 h
    obtain ⟨H1, hH, e⟩ := map1 h; cases e
    obtain ⟨e1, _⟩ := hE m (by simp [Op.operands]) a ha
    obtain ⟨e3, e4⟩ := hE k (by simp [Op.operands]) b hb
    obtain ⟨e5, e6⟩ := hE x (by simp [Op.operands]) c hc
    obtain ⟨w', h1, h2⟩ := entryStoreA_sound (t := t) s hH e6
    exact Done.unit (x := Instr.entryStore t (ρ m) (ρ k) (ρ x)) rfl ⟨ι, w', by rw [e1, e3, e5]; exact h1, h2⟩
  | extract x i =>
    simp only [aop] at h
    split at h
    · rename_i vs hx
      obtain ⟨c, hc, e⟩ := map1 h; cases e
      obtain ⟨e1, e2⟩ := hE x (by simp [Op.operands]) _ hx
      refine Done.val s (x := Instr.extract (ρ x) i) rfl ?_
      rw [e1]; exact extract_sound hc e2
    · cases h
  | call c =>
    obtain ⟨callee, args, argTypes⟩ := c
    cases callee with
    | value f => simp [aop] at h
    | invoke r m => simp [aop] at h
    | builtin b =>
      simp only [aop] at h
      obtain ⟨vs, hvs, h⟩ := bind1 h
      obtain ⟨e1, e2⟩ := evalL_sound (ι := ι) (ρ := ρ) args.toList vs hvs (fun y hy => hE y (by simp [Op.operands, Call.operands]; simpa using hy))
      have e3 : args.map ρ = (vs.map (AV.conc ι)).toArray := by rw [← e1]; apply Array.ext'; simp
      cases b with
      | len =>
        rcases vs with _ | ⟨x, _ | ⟨y, rest⟩⟩ <;> simp only [] at h <;> try (cases h; done)
        obtain ⟨y, hy, e⟩ := map1 h; cases e
        obtain ⟨n, hn, e⟩ := map1 hy; subst e
        refine ⟨ι, w, .inl ?_, Post.refl s, trivial⟩
        simp only [execOp, resolve, pure_bind, invoke, builtin, e3]
        have := lenTA_sound s hn argTypes rfl type
        simp only [List.map_cons, List.map_nil, Sem.run_bind, this, Result.andThen_ok, Sem.run_pure, AV.conc]
      | append =>
        rcases vs with _ | ⟨a, _ | ⟨x, _ | ⟨y, rest⟩⟩⟩ <;> simp only [] at h <;> try (cases h; done)
        obtain ⟨ι', w', h1, h2, h3⟩ := appendA_sound s h argTypes rfl rfl type (e2 a (by simp)) (e2 x (by simp)) hlo
        refine ⟨ι', w', .inl ?_, h2, h3⟩
        simp only [execOp, resolve, pure_bind, invoke, builtin, e3]
        simp only [List.map_cons, List.map_nil, Sem.run_bind, h1, Result.andThen_ok, Sem.run_pure]
      | copy =>
        rcases vs with _ | ⟨d, _ | ⟨x, _ | ⟨y, rest⟩⟩⟩ <;> simp only [] at h <;> try (cases h; done)
        obtain ⟨w', h1, h2, h3⟩ := copyA_sound s h argTypes rfl type (e2 d (by simp)) (e2 x (by simp))
        refine ⟨ι, w', .inl ?_, h2, h3⟩
        simp only [execOp, resolve, pure_bind, invoke, builtin, e3]
        simp only [List.map_cons, List.map_nil, Sem.run_bind, h1, Result.andThen_ok, Sem.run_pure]
      | max =>
        rcases vs with _ | ⟨x, rest⟩ <;> simp only [] at h <;> try (cases h; done)
        obtain ⟨y, hy, e⟩ := map1 h; cases e
        obtain ⟨h1, h2⟩ := maxA_sound (P := P) (ι := ι) (w := w) rest x v hy
        refine ⟨ι, w, .inl ?_, Post.refl s, ?_⟩
        · simp only [execOp, resolve, pure_bind, invoke, builtin, e3, Builtin.max_]
          simp only [List.map_cons, Sem.run_bind, h1, Result.andThen_ok, Sem.run_pure]
        · rcases h2 with rfl | ⟨k, n, rfl⟩
          · exact e2 _ (by simp)
          · trivial
      | min =>
        rcases vs with _ | ⟨x, rest⟩ <;> simp only [] at h <;> try (cases h; done)
        obtain ⟨y, hy, e⟩ := map1 h; cases e
        obtain ⟨h1, h2⟩ := minA_sound (P := P) (ι := ι) (w := w) rest x v hy
        refine ⟨ι, w, .inl ?_, Post.refl s, ?_⟩
        · simp only [execOp, resolve, pure_bind, invoke, builtin, e3, Builtin.min_]
          simp only [List.map_cons, Sem.run_bind, h1, Result.andThen_ok, Sem.run_pure]
        · rcases h2 with rfl | ⟨k, n, rfl⟩
          · exact e2 _ (by simp)
          · trivial
      | _ => rcases vs with _ | ⟨x, _ | ⟨y, _ | ⟨z, rest⟩⟩⟩ <;> simp at h
  | _ => simp [aop] at h
end
end Go.Ab
/-! The abstract interpreter is sound, 9: the machine's steps in a frame, rounds too. Conditions: none. -/
set_option linter.unusedSimpArgs false
set_option linter.unusedVariables false
namespace Go.Ab
open Go Go.RowKit

/-- a real frame's fixed part -/
structure RC where
  fn : FuncId
  kind : CallKind
  rnd : Option Nat

def F (c : RC) (a : Act) (todo : List Item) : Frame := { fn := c.fn, tmps := a.tmps, todo, defers := a.defers, mode := .run, kind := c.kind, roundOf := c.rnd }

section
variable {P : Program} {c : RC} {a : Act} {k : List Item} {cs : List Frame} {w : World}
theorem F_eval (todo : List Item) : (F c a todo).eval = a.eval := by funext x; cases x <;> rfl
theorem st_skip : step P (lone (F c a (.code .skip :: k)) cs w) = .next (lone (F c a k) cs w) := step_lone_go (by simp [stepG, stepG.exec, F])
theorem st_inBlock {id : Nat} : step P (lone (F c a (.inBlock id :: k)) cs w) = .next (lone (F c a k) cs w) := step_lone_go (by simp [stepG, stepG.exec, F])
theorem st_seq {x y : Code} : step P (lone (F c a (.code (.seq x y) :: k)) cs w) = .next (lone (F c a (.code x :: .code y :: k)) cs w) := step_lone_go (by simp [stepG, stepG.exec, F])
theorem st_cond [E : Env] {o : Operand} {x y : Code} {t : Bool} (h : a.eval o = .bool t) : step P (lone (F c a (.code (.cond o x y) :: k)) cs w) = .next (lone (F c a (.code (if t then x else y) :: k)) cs w) :=
  step_lone_go (by
    have := congrFun (F_eval (c := c) (a := a) (.code (.cond o x y) :: k)) o
    simp only [F] at this
    simp [stepG, stepG.exec, F, this, h])
theorem st_block {id : Nat} {x : Code} : step P (lone (F c a (.code (.block id x) :: k)) cs w) = .next (lone (F c a (.code x :: .inBlock id :: k)) cs w) := step_lone_go (by simp [stepG, stepG.exec, F])
theorem st_loop {x : Code} : step P (lone (F c a (.code (.loop x) :: k)) cs w) = .next (lone (F c a (.code x :: .inLoop x :: k)) cs w) := step_lone_go (by simp [stepG, stepG.exec, F])
theorem st_inLoop {x : Code} : step P (lone (F c a (.inLoop x :: k)) cs w) = .next (lone (F c a (.code x :: .inLoop x :: k)) cs w) := step_lone_go (by simp [stepG, stepG.exec, F])
theorem st_exit {id : Nat} {k' : List Item} (h : exitTo id k = some k') : step P (lone (F c a (.code (.exit id) :: k)) cs w) = .next (lone (F c a k') cs w) := step_lone_go (by simp [stepG, stepG.exec, F, h])
theorem st_region {id : Nat} {ops : Array Oper} : step P (lone (F c a (.code (.region id ops false) :: k)) cs w) = .next (lone (F c a (.inRegion ops (List.range ops.size) :: k)) cs w) :=
  step_lone_go (by simp [stepG, stepG.exec, F])
theorem st_draw {id : Nat} {ops : Array Oper} : step P (lone (F c a (.code (.region id ops true) :: k)) cs w) =
    .next (lone (F c a (.inRegion ops (Region.schedule (P.follows .mixedOrders) ops (w.tape w.drawn (.order c.fn id))) :: k)) cs { w with drawn := w.drawn + 1 }) :=
  step_lone_go (by simp [stepG, stepG.exec, F, choose, Sem.run, Question.forced, Question.cut])
theorem st_regionEnd {ops : Array Oper} : step P (lone (F c a (.inRegion ops [] :: k)) cs w) = .next (lone (F c a k) cs w) := step_lone_go (by simp [stepG, stepG.exec, F])

theorem F_finish (ops : Array Oper) (i : Nat) (rest : List Nat) (v : Value) :
    (F c a (.inRegion ops (i :: rest) :: k)).finish v = F c (a.put ((ops[i]?).bind (·.dst)) v) (.inRegion ops rest :: k) := by
  cases h : (ops[i]?).bind (·.dst) <;> simp [Frame.finish, F, Act.put, h]
theorem st_opSkip [E : Env] {ops : Array Oper} {i : Nat} {rest : List Nat} (h : ((ops[i]?).map (Region.wanted · (yielded ops a.tmps))).getD false = false) :
    step P (lone (F c a (.inRegion ops (i :: rest) :: k)) cs w) = .next (lone (F c (a.put ((ops[i]?).bind (·.dst)) undef) (.inRegion ops rest :: k)) cs w) := by
  rw [← F_finish]
  exact step_lone_go (by
    have h' := h
    simp only [F] at *
    simp [stepG, stepG.exec, h'])
theorem stepG_opF [E : Env] {ops : Array Oper} {i : Nat} {rest : List Nat} {o : Oper} (ho : ops[i]? = some o) (hw : Region.wanted o (yielded ops a.tmps) = true) (hd : ∀ x, o.op ≠ .defer x) :
    stepG P true { frame := F c a (.inRegion ops (i :: rest) :: k), callers := cs, status := .running, dying := none } w =
      stepG.apply P true (F c a (.inRegion ops (i :: rest) :: k)) cs none (execOp a.eval o) w := by
  have he := F_eval (c := c) (a := a) (.inRegion ops (i :: rest) :: k)
  simp only [F] at he
  simp only [stepG, stepG.exec, F, ho, Option.map_some, hw, Option.getD_some, if_true, stepG.oper, Frame.oper?, he]
  split
  · rename_i l x _ hx; exact absurd hx (hd x)
  · rfl
/-- an operation that gives a value -/
theorem st_val [E : Env] {ops : Array Oper} {i : Nat} {rest : List Nat} {o : Oper} {v : Value} {w' : World} (ho : ops[i]? = some o) (hw : Region.wanted o (yielded ops a.tmps) = true) (hd : ∀ x, o.op ≠ .defer x)
    (h : (execOp a.eval o).run P w = .ok (.value v) w' ∨ (v = undef ∧ (execOp a.eval o).run P w = .ok .skip w')) :
    step P (lone (F c a (.inRegion ops (i :: rest) :: k)) cs w) = .next (lone (F c (a.put o.dst v) (.inRegion ops rest :: k)) cs w') := by
  have hf := F_finish (c := c) (a := a) (k := k) ops i rest v
  rw [ho] at hf
  simp only [Option.bind_some] at hf
  refine step_lone_go ?_
  rw [stepG_opF ho hw hd, ← hf]
  rcases h with h | ⟨rfl, h⟩ <;> simp [stepG.apply, h]
/-- an operation that enters a function -/
theorem st_enter [E : Env] {ops : Array Oper} {i : Nat} {rest : List Nat} {o : Oper} {f : FuncId} {args : Array Value} {w' : World} (ho : ops[i]? = some o) (hw : Region.wanted o (yielded ops a.tmps) = true) (hd : ∀ x, o.op ≠ .defer x)
    (h : (execOp a.eval o).run P w = .ok (.enter f args) w') :
    step P (lone (F c a (.inRegion ops (i :: rest) :: k)) cs w) = .next (lone (Frame.enter P f args .normal) (F c a (.inRegion ops (i :: rest) :: k) :: cs) w') := by
  refine step_lone_go ?_
  rw [stepG_opF ho hw hd]
  simp [stepG.apply, h, F]
/-- an operation that calls yield -/
theorem st_round [E : Env] {ops : Array Oper} {i : Nat} {rest : List Nat} {o : Oper} {l : Nat} {f : FuncId} {tmps : Array Value} {assign body : Code} {w' : World} (ho : ops[i]? = some o) (hw : Region.wanted o (yielded ops a.tmps) = true) (hd : ∀ x, o.op ≠ .defer x)
    (h : (execOp a.eval o).run P w = .ok (.round l f tmps assign body) w') :
    step P (lone (F c a (.inRegion ops (i :: rest) :: k)) cs w) = .next (lone (F ⟨f, .normal, some l⟩ ⟨tmps, []⟩ [.code assign, .beginRound, .code body]) (F c a (.inRegion ops (i :: rest) :: k) :: cs) w') := by
  refine step_lone_go ?_
  rw [stepG_opF ho hw hd]
  simp [stepG.apply, h, F, Frame.round]
theorem st_leave {fr d : Frame} {ds : List Frame} {v : Value} (h : fr.leaving P w (.returned v)) : step P (lone fr (d :: ds) w) = .next (lone (d.finish v) ds w) := step_leave_returned h

/-! ### rounds and loops over functions -/
theorem st_beginRound {l : Nat} {w' : World} (hc : c.rnd = some l) (h : (Instr.beginRound l).run P w = .ok () w') : step P (lone (F c a (.beginRound :: k)) cs w) = .next (lone (F c a k) cs w') :=
  step_lone_go (by simp [stepG, stepG.exec, F, hc, stepG.apply, h, Frame.finish])
theorem st_endRound {l : Nat} {v : Value} {w' : World} {d : Frame} {ds : List Frame} (hc : c.rnd = some l) (hk : c.kind = .normal) (h : (Instr.endRound l none).run P w = .ok v w') :
    step P (lone (F c a []) (d :: ds) w) = .next (lone (d.finish v) ds w') :=
  step_lone_go (by simp [stepG, stepG.exec, F, hc, hk, h, doReturn, Sem.runT_eq])
theorem st_retRound {l : Nat} {v : Value} {w' : World} {d : Frame} {ds : List Frame} (hc : c.rnd = some l) (hk : c.kind = .normal) (h : (Instr.endRound l (some .ret)).run P w = .ok v w') :
    step P (lone (F c a (.code .ret :: k)) (d :: ds) w) = .next (lone (d.finish v) ds w') :=
  step_lone_go (by simp [stepG, stepG.exec, F, hc, hk, h, doReturn, Sem.runT_eq])
theorem st_exitRound {id l : Nat} {v : Value} {w' : World} {d : Frame} {ds : List Frame} (hc : c.rnd = some l) (hk : c.kind = .normal) (hx : exitTo id k = none) (h : (Instr.endRound l (some (.exit id))).run P w = .ok v w') :
    step P (lone (F c a (.code (.exit id) :: k)) (d :: ds) w) = .next (lone (d.finish v) ds w') :=
  step_lone_go (by simp [stepG, stepG.exec, F, hc, hk, hx, h, doReturn, Sem.runT_eq])
/-- a frame that returns -/
theorem st_ret (hc : c.rnd = none) : step P (lone (F c a (.code .ret :: k)) cs w) = .next (lone { F c a (.code .ret :: k) with mode := .returning } cs w) := step_lone_go (by simp [stepG, stepG.exec, F, hc])
theorem st_end (hc : c.rnd = none) : step P (lone (F c a []) cs w) = .next (lone { F c a [] with mode := .returning } cs w) := step_lone_go (by simp [stepG, stepG.exec, F, hc])
theorem st_mark {fr : Frame} {b : Nat} {xs : Array Value} {ds : List Deferred} {w' : World} (hm : fr.mode = .returning) (hd : fr.defers = { target := .collected b, args := xs } :: ds)
    (h : (Instr.takeDeferred b).run P w = .ok [] w') : step P (lone fr cs w) = .next (lone { fr with defers := ds } cs w') :=
  step_lone_go (by simp [stepG, hm, unwind, hd, h, Sem.runT_eq])
/-- the start of a loop over a function: its record is laid, the function is called -/
theorem st_rangeCall {f : Operand} {params : Array Tmp} {assign body : Code} {l : Nat} {mark : List Deferred} {w1 w2 : World} {g : FuncId} {args : Array Value}
    (h : (Instr.enterLoop c.fn a.tmps params assign body c.rnd).run P w = .ok (l, mark) w1)
    (h2 : (do let d ← resolve a.eval { callee := .value f, args := #[.const (.func (.yield l) #[] #[])], argTypes := #[] } 0; invoke d.target d.args : Sem Next).run P w1 = .ok (.enter g args) w2) :
    step P (lone (F c a (.code (.rangeFunc f params assign body) :: k)) cs w) =
      .next (lone (Frame.enter P g args .normal) (F c ⟨a.tmps, mark ++ a.defers⟩ (.inRangeFunc l :: k) :: cs) w2) := by
  have he : ∀ todo ds, ({ fn := c.fn, tmps := a.tmps, todo, defers := ds, mode := .run, kind := c.kind, roundOf := c.rnd } : Frame).eval = a.eval := fun todo ds => by funext x; cases x <;> rfl
  refine step_lone_go ?_
  simp only [stepG, stepG.exec, F, Sem.runT_eq, h, GStep.bare_after, he]
  simp only [stepG.apply, Sem.runT_eq, h2, if_true, GStep.bare_after]
  rfl
theorem st_endLoop {l : Nat} {jump : Option Code} {w' : World} (h : (Instr.endLoop l).run P w = .ok jump w') :
    step P (lone (F c a (.endRangeFunc l :: k)) cs w) = .next (lone (F c a ((jump.map Item.code).toList ++ k)) cs w') :=
  step_lone_go (by simp [stepG, stepG.exec, F, h, Sem.runT_eq])
end
end Go.Ab
/-! The abstract interpreter is sound, 10: calls and rounds, given that the interpreter of the bodies is. Conditions: none. -/
set_option linter.unusedSimpArgs false
set_option linter.unusedVariables false
namespace Go.Ab
open Go Go.RowKit

def markOf (ι : Inj) (b : Nat) : Deferred := { target := .collected (ι b).1, args := #[] }
/-- a real frame's variable part is as the abstract one tells -/
structure ARel (w0 : World) (base lo : Nat) (ι : Inj) (n : Nat) (env : List AV) (marks : List Nat) (a : Act) : Prop where
  tmps : a.tmps = (env.map (AV.conc ι)).toArray
  ok : ∀ v ∈ env, v.OK w0 base n
  defers : a.defers = marks.map (markOf ι)
  marks : ∀ b ∈ marks, lo ≤ b ∧ b < n
structure CRel (ι : Inj) (n : Nat) (cx : Ctx) (c : RC) : Prop where
  fn : c.fn = cx.fn
  kind : c.kind = .normal
  rnd : (cx.rnd = none ∧ c.rnd = none) ∨ ∃ l, cx.rnd = some l ∧ l < n ∧ c.rnd = some (ι l).1

def Reach (P : Program) (m : Machine) (c : RC) (k : List Item) (cs : List Frame) : Ex → Act → World → Prop
  | .normal, a, w => Steps P m (lone (F c a k) cs w)
  | .exit id, a, w => ∃ k1, exitTo id k1 = exitTo id k ∧ Steps P m (lone (F c a (.code (.exit id) :: k1)) cs w)
  | .ret, a, w => ∃ k1, Steps P m (lone (F c a (.code .ret :: k1)) cs w)
  | .panic _, _, _ => False
theorem Reach.of_steps {P : Program} {m m1 : Machine} {c : RC} {k : List Item} {cs : List Frame} {e : Ex} {a : Act} {w : World} (h : Steps P m m1) (h' : Reach P m1 c k cs e a w) : Reach P m c k cs e a w := by
  cases e with
  | normal => exact h.trans h'
  | exit id => obtain ⟨k1, h1, h2⟩ := h'; exact ⟨k1, h1, h.trans h2⟩
  | ret => obtain ⟨k1, h2⟩ := h'; exact ⟨k1, h.trans h2⟩
  | panic v => exact h'

def Sound [E : Env] (P : Program) (w0 : World) (base : Nat) (ex : ExF) : Prop :=
  ∀ cx lo code st e st', ex cx lo code st = some (e, st') → ∀ ι w a c, Sim P w0 base ι st.H w → ARel w0 base lo ι st.H.next st.env st.marks a → CRel ι st.H.next cx c → lo ≤ st.H.next →
    ∀ k cs, ∃ ι' w' a', Post P w0 base lo ι st.H w ι' st'.H w' ∧ ARel w0 base lo ι' st'.H.next st'.env st'.marks a' ∧ Reach P (lone (F c a (.code code :: k)) cs w) c k cs e a' w'

section
variable {P : Program} {w0 : World} {base lo : Nat} {ι ι1 ι2 : Inj} {H H1 H2 : Heap} {w w1 w2 : World} {ex : ExF}

theorem ARel.ext [E : Env] {n n' : Nat} {env : List AV} {marks : List Nat} {a : Act} (h : ARel w0 base lo ι n env marks a) (he : ∀ b, b < n → ι1 b = ι b) (hn : n ≤ n') : ARel w0 base lo ι1 n' env marks a :=
  ⟨by rw [h.tmps, map_conc_ext he h.ok], fun v hv => OK.mono hn v (h.ok v hv), by
    rw [h.defers]; exact List.map_congr_left fun b hb => by simp [markOf, he b (h.marks b hb).2], fun b hb => ⟨(h.marks b hb).1, Nat.lt_of_lt_of_le (h.marks b hb).2 hn⟩⟩
theorem CRel.ext {n n' : Nat} {cx : Ctx} {c : RC} (h : CRel ι n cx c) (he : ∀ b, b < n → ι1 b = ι b) (hn : n ≤ n') : CRel ι1 n' cx c :=
  ⟨h.fn, h.kind, h.rnd.imp id fun ⟨l, h1, h2, h3⟩ => ⟨l, h1, Nat.lt_of_lt_of_le h2 hn, by rw [h3, he l h2]⟩⟩

theorem undef_conc (ι : Inj) : undefA.conc ι = undef := by simp [undefA, AV.conc, AV.concL, undef]
theorem ARel.ev [E : Env] {n : Nat} {env : List AV} {marks : List Nat} {a : Act} (h : ARel w0 base lo ι n env marks a) (gl : GlobOK w0 base) (x : Operand) : Ev w0 base n ι env a.eval x := by
  intro v hv
  cases x with
  | tmp t =>
    simp only [evalO, Option.some.injEq] at hv
    subst hv
    refine ⟨?_, ?_⟩
    · simp only [Act.eval, h.tmps]
      cases ht : env[t]? with
      | none => simp [List.getD, ht, undef_conc]
      | some u => simp [List.getD, ht]
    · cases ht : env[t]? with
      | none => simp [List.getD, ht, undefA, AV.OK, AV.OKL]
      | some u => simpa [List.getD, ht] using h.ok u (List.mem_of_getElem? ht)
  | const v' => exact ⟨(ofVal_conc ι hv).symm, OK.mono (Nat.zero_le _) v (ofVal_OK hv)⟩
  | global g =>
    obtain ⟨h1, h2⟩ := gl g v hv
    exact ⟨(h2 ι).symm, OK.mono (Nat.zero_le _) v h1⟩
  | func f => simp only [evalO, Option.some.injEq] at hv; subst hv; simp [Act.eval, AV.conc, AV.concL, AV.OK, AV.OKL]
theorem ARel.put {n : Nat} {env : List AV} {marks : List Nat} {a : Act} (h : ARel w0 base lo ι n env marks a) (d : Option Tmp) {v : AV} (hv : v.OK w0 base n) : ARel w0 base lo ι n (putE env d v) marks (a.put d (v.conc ι)) := by
  cases d with
  | none => exact h
  | some d =>
    refine ⟨?_, fun u hu => ?_, h.defers, h.marks⟩
    · simp [Act.put, putE, h.tmps, List.map_set]
    · simp only [putE] at hu
      rcases List.mem_or_eq_of_mem_set hu with hu | rfl
      · exact h.ok u hu
      · exact hv

/-- an object goes -/
theorem Post.drop [E : Env] (s : Sim P w0 base ι H w) {b : Nat} {x : Blk} (hx : H.get b = some x) (w1 : World) (hlo : lo ≤ b)
    (hw : w1.os = w.os ∧ w1.tape = w.tape ∧ w1.output = w.output ∧ w1.heap.size = w.heap.size) (hother : ∀ r, r ≠ (ι b).1 → w1.heap[r]? = w.heap[r]?) : Post P w0 base lo ι H w ι (H.kill b) w1 := by
  have hget : ∀ c z, (H.kill b).get c = some z → c ≠ b ∧ H.get c = some z := fun c z h => by
    rw [Heap.get_kill] at h
    by_cases e : c = b
    · simp [e] at h
    · rw [if_neg e] at h; exact ⟨e, h⟩
  refine ⟨⟨?_, s.hb, s.gl, ?_, ?_, ?_, ?_, ?_⟩, fun _ _ => rfl, Nat.le_refl _, ?_, ?_, by omega, ?_, ?_⟩
  · refine s.below.trans ⟨hw.1, hw.2.1, hw.2.2.1, by omega, fun k hk => hother k ?_⟩
    have := s.lo b x hx; omega
  · intro c c' z z' h h' e; exact s.inj c c' z z' (hget c z h).2 (hget c' z' h').2 e
  · intro c z h; exact s.lt c z (hget c z h).2
  · intro c z h; exact s.lo c z (hget c z h).2
  · intro c z h; exact s.ok c z (hget c z h).2
  · intro c z h
    obtain ⟨hne, hz⟩ := hget c z h
    rw [hother _ (fun e => hne (s.inj c b z x hz hx e))]
    exact s.rel c z hz
  · intro c hc; rw [Heap.get_kill, if_neg (by omega)]
  · intro c z hc h; exact ⟨z, (hget c z h).2⟩
  · intro r hr hne; exact hother r fun e => hne b x hx hlo e.symm
  · intro c z h hc; have := s.lt c z (hget c z h).2; omega

/-- a call that touched nothing old: the old heap still tells the truth -/
theorem Post.restore [E : Env] {ι' : Inj} {H' : Heap} {w' : World} (s : Sim P w0 base ι H w) (p : Post P w0 base H.next ι H w ι' H' w') (hlo : lo ≤ H.next) : Post P w0 base lo ι H w ι' H w' where
  sim := by
    have hk : ∀ b x, H.get b = some x → H'.get b = some x := fun b x h => by rw [p.keep b (s.lt b x h)]; exact h
    have he : ∀ b x, H.get b = some x → ι' b = ι b := fun b x h => p.ext b (s.lt b x h)
    exact { below := p.sim.below, hb := s.hb, gl := s.gl, inj := fun b b' x x' h h' => p.sim.inj b b' x x' (hk b x h) (hk b' x' h'), lt := s.lt,
            lo := fun b x h => p.sim.lo b x (hk b x h), ok := s.ok, rel := fun b x h => p.sim.rel b x (hk b x h) }
  ext := p.ext
  next := Nat.le_refl _
  keep := fun _ _ => rfl
  alive := fun b x _ h => ⟨x, h⟩
  size := p.size
  frame := fun r hr _ => p.frame r hr fun b x h hb => absurd (s.lt b x h) (by omega)
  newr := fun b x h hb => absurd (s.lt b x h) (by omega)

theorem Post.restore' [E : Env] {ι' : Inj} {H' : Heap} {w' : World} (s : Sim P w0 base ι H w) (p : Post P w0 base lo ι H w ι' H' w') (hk0 : ∀ b, b < H.next → H'.get b = H.get b) : Post P w0 base lo ι H w ι' H w' where
  sim := by
    have hk : ∀ b x, H.get b = some x → H'.get b = some x := fun b x h => by rw [hk0 b (s.lt b x h)]; exact h
    have he : ∀ b x, H.get b = some x → ι' b = ι b := fun b x h => p.ext b (s.lt b x h)
    exact { below := p.sim.below, hb := s.hb, gl := s.gl, inj := fun b b' x x' h h' => p.sim.inj b b' x x' (hk b x h) (hk b' x' h'), lt := s.lt,
            lo := fun b x h => p.sim.lo b x (hk b x h), ok := s.ok, rel := fun b x h => p.sim.rel b x (hk b x h) }
  ext := p.ext
  next := Nat.le_refl _
  keep := fun _ _ => rfl
  alive := fun b x _ h => ⟨x, h⟩
  size := p.size
  frame := p.frame
  newr := fun b x h hb => absurd (s.lt b x h) (by omega)
theorem unch_iff {H H' : Heap} : unch H H' = true ↔ ∀ b, b < H.next → H'.get b = H.get b := by simp [unch]

theorem marks_sound [E : Env] : ∀ (marks : List Nat) (H H' : Heap) (w : World) (fr : Frame) (cs : List Frame), dropMarks H marks = some H' → Sim P w0 base ι H w → (∀ b ∈ marks, lo ≤ b) → fr.mode = .returning → fr.defers = marks.map (markOf ι) →
    ∃ w', Steps P (lone fr cs w) (lone { fr with defers := [] } cs w') ∧ Post P w0 base lo ι H w ι H' w'
  | [], H, H', w, fr, cs, h, s, _, hm, hd => by
    simp only [dropMarks] at h; cases h
    refine ⟨w, ?_, Post.refl s⟩
    have : ({ fr with defers := [] } : Frame) = fr := by
      have hd' : fr.defers = [] := by simpa using hd
      cases fr; simp only at hd' ⊢; rw [hd']
    rw [this]; exact Steps.refl P _
  | b :: bs, H, H', w, fr, cs, h, s, hl, hm, hd => by
    simp only [dropMarks] at h
    split at h
    · rename_i hb
      have hr := s.rel b _ hb
      simp only [BlkRel] at hr
      have htake : (Instr.takeDeferred (ι b).1).run P w = .ok [] { w with heap := w.heap.setIfInBounds (ι b).1 (.deferred none) } := by
        simp only [Instr.takeDeferred, Sem.run_bind, getObj, Sem.run, hr, Result.andThen_ok]
        rw [run_setObj _ _ _ hr (by simp)]
        rfl
      have hpost := Post.drop (lo := lo) s hb { w with heap := w.heap.setIfInBounds (ι b).1 (.deferred none) } (hl b (by simp)) ⟨rfl, rfl, rfl, by simp⟩ (fun r hr' => Array.getElem?_setIfInBounds_ne (fun e => hr' e.symm))
      have hst := st_mark (P := P) (cs := cs) hm (b := (ι b).1) (xs := #[]) (ds := bs.map (markOf ι)) (by rw [hd]; rfl) htake
      obtain ⟨w', h1, h2⟩ := marks_sound bs (H.kill b) H' _ { fr with defers := bs.map (markOf ι) } cs h hpost.sim (fun c hc => hl c (by simp [hc])) hm rfl
      exact ⟨w', Steps.head hst h1, hpost.trans h2⟩
    · cases h

def resSem (tmps : Array Value) (r : ResultVar) : Sem Value :=
  match r with | .tmp t => pure (tmps.getD t undef) | .cell a t => do loadVar t (← asAddr (tmps.getD a undef))
theorem results_eq (fn : Func) (tmps : Array Value) : results fn tmps = (do let vs ← fn.results.mapM (resSem tmps); pure (if h : vs.size = 1 then vs[0] else .tuple vs)) := by
  unfold results
  have e : (fun r : ResultVar => (match r with | .tmp t => pure (tmps.getD t undef) | .cell a t => do loadVar t (← asAddr (tmps.getD a undef)) : Sem Value)) = resSem tmps := rfl
  rw [← e]
  rfl
theorem resultsA_sound [E : Env] (s : Sim P w0 base ι H w) {env : List AV} {tmps : Array Value} (ht : tmps = (env.map (AV.conc ι)).toArray) (hok : ∀ v ∈ env, v.OK w0 base H.next) : ∀ (rs : List ResultVar) (vs : List AV), resultsA P H env rs = some vs →
    (rs.mapM (resSem tmps)).run P w = .ok (vs.map (AV.conc ι)) w ∧ ∀ v ∈ vs, v.OK w0 base H.next
  | [], vs, h => by simp only [resultsA] at h; cases h; exact ⟨by simp, by simp⟩
  | r :: rs, vs, h => by
    have hget : ∀ t, tmps.getD t undef = (env.getD t undefA).conc ι ∧ (env.getD t undefA).OK w0 base H.next := fun t => by
      subst ht
      cases ht : env[t]? with
      | none => simp [List.getD, ht, undef_conc]; simp [undefA, AV.OK, AV.OKL]
      | some u => simp [List.getD, ht]; exact hok u (List.mem_of_getElem? ht)
    cases r with
    | tmp t =>
      simp only [resultsA] at h
      split at h
      · rename_i l hl
        cases h
        obtain ⟨h1, h2⟩ := resultsA_sound s ht hok rs l hl
        refine ⟨by simp only [List.mapM_cons, Sem.run_bind, resSem, Sem.run_pure, Result.andThen_ok, h1, (hget t).1, List.map_cons], fun v hv => ?_⟩
        rcases List.mem_cons.1 hv with rfl | hv
        · exact (hget t).2
        · exact h2 v hv
      · cases h
    | cell a t =>
      simp only [resultsA] at h
      split at h
      · rename_i v l hv hl
        cases h
        obtain ⟨h1, h2⟩ := resultsA_sound s ht hok rs l hl
        obtain ⟨A, hA, h3, h4⟩ := loadA_sound s hv (hget a).2
        refine ⟨by simp only [List.mapM_cons, Sem.run_bind, resSem, Sem.run_pure, (hget a).1, hA, asAddr, pure_bind, h3, Result.andThen_ok, h1, List.map_cons], fun u hu => ?_⟩
        rcases List.mem_cons.1 hu with rfl | hu
        · exact h4
        · exact h2 u hu
      · cases h

theorem tupA_sound [E : Env] {fn : Func} {tmps : Array Value} {vs : List AV} {n : Nat}
    (h : (fn.results.toList.mapM (resSem tmps)).run P w = .ok (vs.map (AV.conc ι)) w) (hok : ∀ v ∈ vs, v.OK w0 base n) :
    (results fn tmps).run P w = .ok ((tupA vs).conc ι) w ∧ (tupA vs).OK w0 base n := by
  have hm : (fn.results.mapM (resSem tmps)).run P w = .ok (vs.map (AV.conc ι)).toArray w := by
    rw [Array.mapM_eq_mapM_toList, Sem.run_map, h]; rfl
  constructor
  · simp only [results_eq, Sem.run_bind, hm, Result.andThen_ok, Sem.run_pure]
    congr 1
    rcases vs with _ | ⟨v, _ | ⟨u, vs⟩⟩
    · simp [tupA, AV.conc, AV.concL]
    · simp [tupA]
    · simp [tupA, AV.conc, concL_eq]
  · rcases vs with _ | ⟨v, _ | ⟨u, vs⟩⟩
    · simp [tupA, AV.OK, AV.OKL]
    · exact hok v (by simp)
    · simp only [tupA, AV.OK]; exact (OKL_iff ..).2 hok

theorem rel_lt {x : Blk} {cap r : Nat} (h : BlkRel P ι cap w.heap[r]? x) : r < w.heap.size := by
  have : ∃ o, w.heap[r]? = some o := by
    cases x with
    | cells t cs => obtain ⟨c, ho, _⟩ := h; exact ⟨_, ho⟩
    | _ => exact ⟨_, h⟩
  obtain ⟨o, ho⟩ := this
  exact (Array.getElem?_eq_some_iff.1 ho).1
mutual
/-- what is read-only may be named from a later world -/
theorem OK.here {w0 w : World} {base : Nat} (hb : base ≤ w0.heap.size) (hw : Below base w0 w) : ∀ v : AV, v.OK w0 base 0 → v.OK w w.heap.size 0
  | .bool _, _ | .int _ _, _ | .str _, _ | .nilp, _ | .nilf, _ | .nili, _ | .map none, _ => trivial
  | .ptr _ _, k | .sl _ _ _ _, k | .map (some _), k | .yieldf _, k => by simp [AV.OK] at k
  | .rptr a cs, k => by
    simp only [AV.OK] at k ⊢
    have hs := hw.size
    exact ⟨by omega, fun ι j c hc => by rw [hw.cell (by rw [add_block]; exact k.1)]; exact k.2.1 ι j c hc, OKL.here hb hw cs k.2.2⟩
  | .rsl none _ _ _, k => by simp only [AV.OK] at k ⊢; exact k
  | .rsl (some a) _ _ l, k => by
    simp only [AV.OK] at k ⊢
    have hs := hw.size
    refine ⟨k.1, fun ι i e he => ?_, OKL.here hb hw l k.2.2⟩
    obtain ⟨k1, k2, k3⟩ := k.2.1 ι i e he
    exact ⟨by omega, k2, fun j c hc => by rw [hw.cell (by rw [add_block, add_block]; exact k1)]; exact k3 j c hc⟩
  | .func _ a b, k => by simp only [AV.OK] at k ⊢; exact ⟨OKL.here hb hw a k.1, OKL.here hb hw b k.2⟩
  | .iface _ v, k => by simp only [AV.OK] at k ⊢; exact OK.here hb hw v k
  | .agg l, k | .tup l, k => by simp only [AV.OK] at k ⊢; exact OKL.here hb hw l k
theorem OKL.here {w0 w : World} {base : Nat} (hb : base ≤ w0.heap.size) (hw : Below base w0 w) : ∀ l : List AV, AV.OKL w0 base 0 l → AV.OKL w w.heap.size 0 l
  | [], _ => trivial
  | v :: vs, k => by simp only [AV.OKL] at k ⊢; exact ⟨OK.here hb hw v k.1, OKL.here hb hw vs k.2⟩
end

/-- the summaries are true -/
def SummOK [E : Env] (P : Program) : Prop := ∀ f args v, E.summ f args = some v → AV.rfL args = true →
  (∀ w0 base, AV.OKL w0 base 0 args → v.OK w0 base 0) ∧
  ∀ w ι, GlobOK w w.heap.size → AV.OKL w w.heap.size 0 args → Calls P f (args.map (AV.conc ι)).toArray w fun e w' => e = .returned (v.conc ι) ∧ Below w.heap.size w w'

/-- a Go function is called -/
theorem callA_sound [E : Env] (hQ : SummOK P) (hS : Sound P w0 base ex) (s : Sim P w0 base ι H w) {f : FuncId} {args : List AV} {v : AV} {H' : Heap} (h : callA P ex lo f args H = some (v, H')) (hargs : ∀ a ∈ args, a.OK w0 base H.next) (hlo : lo ≤ H.next) (cs : List Frame) :
    ∃ ι' w' fr, Post P w0 base lo ι H w ι' H' w' ∧ v.OK w0 base H'.next ∧ Steps P (lone (Frame.enter P f (args.map (AV.conc ι)).toArray .normal) cs w) (lone fr cs w') ∧ fr.leaving P w' (.returned (v.conc ι')) ∧ fr.fn = f := by
  unfold callA at h
  cases hf : P.funcs[f]? with
  | none => simp [hf] at h
  | some fn =>
  simp only [hf] at h
  cases hb : fn.body with
  | none => simp [hb] at h
  | some c =>
  simp only [hb] at h
  cases hsu : E.summ f args with
  | some v1 =>
    simp only [hsu] at h
    split at h
    · rename_i hrf
      cases h
      obtain ⟨q1, q2⟩ := hQ f args v hsu hrf
      have hargs0 := OKL.rf args hrf ((OKL_iff w0 base H.next args).2 hargs)
      obtain ⟨e, w', fr, ⟨rfl, h2⟩, h3, h4, h5⟩ := q2 w ι (fun g u hu => ⟨OK.here s.hb s.below u (s.gl g u hu).1, (s.gl g u hu).2⟩) (OKL.here s.hb s.below args hargs0) cs
      refine ⟨ι, w', fr, ?_, OK.mono (Nat.zero_le _) v (q1 w0 base hargs0), h3, h5, h4⟩
      have hfr : ∀ r, r < w.heap.size → w'.heap[r]? = w.heap[r]? := h2.block
      exact
        { sim := { below := s.below.trans (h2.mono (Nat.le_trans s.hb s.below.size)), hb := s.hb, gl := s.gl, inj := s.inj, lt := s.lt, lo := s.lo, ok := s.ok,
                   rel := fun b x hx => by
                     have := s.rel b x hx
                     rw [hfr _ (rel_lt this)]; exact this }
          ext := fun _ _ => rfl, next := Nat.le_refl _, keep := fun _ _ => rfl, alive := fun b x _ hx => ⟨x, hx⟩, size := h2.size,
          frame := fun r hr _ => hfr r hr, newr := fun b x hx hb => absurd (s.lt b x hx) (by omega) }
    · cases h
  | none =>
  simp only [hsu] at h
  -- the body's run
  have hbody : ∀ st, (ex ⟨f, none⟩ (if AV.rfL args then H.next else lo) c ⟨args ++ List.replicate (fn.ntmps - args.length) undefA, [], H⟩ = some (.normal, st) ∨
      ex ⟨f, none⟩ (if AV.rfL args then H.next else lo) c ⟨args ++ List.replicate (fn.ntmps - args.length) undefA, [], H⟩ = some (.ret, st)) →
      ∀ H1 vs, dropMarks st.H st.marks = some H1 → resultsA P H1 st.env fn.results.toList = some vs →
      ∃ ι' w' fr, Post P w0 base (if AV.rfL args then H.next else lo) ι H w ι' H1 w' ∧ (tupA vs).OK w0 base H1.next ∧ Steps P (lone (Frame.enter P f (args.map (AV.conc ι)).toArray .normal) cs w) (lone fr cs w') ∧ fr.leaving P w' (.returned ((tupA vs).conc ι')) ∧ fr.fn = f := by
    intro st hst H1 vs hdm hres
    have hlo' : (if AV.rfL args then H.next else lo) ≤ H.next := by split <;> omega
    have henter : Frame.enter P f (args.map (AV.conc ι)).toArray .normal = F ⟨f, .normal, none⟩ ⟨(args.map (AV.conc ι)).toArray ++ Array.replicate (fn.ntmps - args.length) undef, []⟩ [.code c] := by
      simp [Frame.enter, F, hf, hb]
    have hA : ARel w0 base (if AV.rfL args then H.next else lo) ι H.next (args ++ List.replicate (fn.ntmps - args.length) undefA) [] ⟨(args.map (AV.conc ι)).toArray ++ Array.replicate (fn.ntmps - args.length) undef, []⟩ := by
      refine ⟨?_, fun u hu => ?_, rfl, by simp⟩
      · apply Array.ext'; simp [undef_conc]
      · rcases List.mem_append.1 hu with hu | hu
        · exact hargs u hu
        · rw [List.eq_of_mem_replicate hu]; simp [undefA, AV.OK, AV.OKL]
    have hC : CRel ι H.next ⟨f, none⟩ ⟨f, .normal, none⟩ := ⟨rfl, rfl, .inl ⟨rfl, rfl⟩⟩
    have key : ∃ ι' w' a' todo, Post P w0 base (if AV.rfL args then H.next else lo) ι H w ι' st.H w' ∧ ARel w0 base (if AV.rfL args then H.next else lo) ι' st.H.next st.env st.marks a' ∧
        Steps P (lone (Frame.enter P f (args.map (AV.conc ι)).toArray .normal) cs w) (lone { F ⟨f, .normal, none⟩ a' todo with mode := .returning } cs w') := by
      rw [henter]
      rcases hst with hst | hst
      · obtain ⟨ι', w', a', h1, h2, h3⟩ := hS _ _ _ _ _ _ hst ι w _ _ s hA hC hlo' [] cs
        exact ⟨ι', w', a', _, h1, h2, Steps.trans h3 (.one (st_end rfl))⟩
      · obtain ⟨ι', w', a', h1, h2, k1, h3⟩ := hS _ _ _ _ _ _ hst ι w _ _ s hA hC hlo' [] cs
        exact ⟨ι', w', a', _, h1, h2, Steps.trans h3 (.one (st_ret rfl))⟩
    obtain ⟨ι', w', a', todo, h1, h2, h3⟩ := key
    obtain ⟨w'', h4, h5⟩ := marks_sound (lo := if AV.rfL args then H.next else lo) st.marks st.H H1 w' { F ⟨f, .normal, none⟩ a' todo with mode := .returning } cs hdm h1.sim (fun b hb => (h2.marks b hb).1) rfl h2.defers
    have hA' := h2.ext (ι1 := ι') (n' := H1.next) (fun _ _ => rfl) h5.next
    obtain ⟨h6, h7⟩ := resultsA_sound (P := P) h5.sim hA'.tmps hA'.ok fn.results.toList vs hres
    obtain ⟨h8, h9⟩ := tupA_sound (fn := fn) h6 h7
    exact ⟨ι', w'', _, h1.trans h5, h9, h3.trans h4, ⟨rfl, rfl, rfl, fn, hf, h8⟩, rfl⟩
  have fin : ∀ st, (ex ⟨f, none⟩ (if AV.rfL args then H.next else lo) c ⟨args ++ List.replicate (fn.ntmps - args.length) undefA, [], H⟩ = some (.normal, st) ∨
      ex ⟨f, none⟩ (if AV.rfL args then H.next else lo) c ⟨args ++ List.replicate (fn.ntmps - args.length) undefA, [], H⟩ = some (.ret, st)) →
      (match dropMarks st.H st.marks with
        | some H' => match resultsA P H' st.env fn.results.toList with
          | some vs => if (AV.rfL args || unch H H') && (tupA vs).rf then some (tupA vs, H) else some (tupA vs, H')
          | none => none
        | none => none) = some (v, H') →
      ∃ ι' w' fr, Post P w0 base lo ι H w ι' H' w' ∧ v.OK w0 base H'.next ∧ Steps P (lone (Frame.enter P f (args.map (AV.conc ι)).toArray .normal) cs w) (lone fr cs w') ∧ fr.leaving P w' (.returned (v.conc ι')) ∧ fr.fn = f := by
    intro st hst h
    cases hdm : dropMarks st.H st.marks with
    | none => simp [hdm] at h
    | some H1 =>
    simp only [hdm] at h
    cases hres : resultsA P H1 st.env fn.results.toList with
    | none => simp [hres] at h
    | some vs =>
    simp only [hres] at h
    obtain ⟨ι', w', fr, h1, h2, h3, h4, h5⟩ := hbody st hst H1 vs hdm hres
    split at h
    · rename_i hc
      simp only [Bool.and_eq_true] at hc
      cases h
      cases hown : AV.rfL args with
      | true =>
        rw [hown] at h1
        simp only [if_true] at h1
        exact ⟨ι', w', fr, Post.restore s h1 hlo, OK.mono (Nat.zero_le _) _ (OK.rf _ hc.2 h2), h3, h4, h5⟩
      | false =>
        rw [hown] at h1 hc
        simp only [Bool.false_eq_true, if_false] at h1
        simp only [Bool.false_or] at hc
        exact ⟨ι', w', fr, Post.restore' s h1 (unch_iff.1 hc.1), OK.mono (Nat.zero_le _) _ (OK.rf _ hc.2 h2), h3, h4, h5⟩
    · cases h
      exact ⟨ι', w', fr, h1.mono (by split <;> omega), h2, h3, h4, h5⟩
  split at h
  · rename_i st hst; exact fin st (.inl hst) h
  · rename_i st hst; exact fin st (.inr hst) h
  · cases h
end
end Go.Ab
/-! The abstract interpreter is sound, 11: rounds, operations with calls, regions in the text's order. Conditions: none. -/
set_option linter.unusedSimpArgs false
set_option linter.unusedVariables false
namespace Go.Ab
open Go Go.RowKit

/-- no function is one that the model answers itself; the summaries are true -/
structure Names [E : Env] (P : Program) : Prop where
  names : ∀ (f : Nat) (fn : Func), P.funcs[f]? = some fn → (fn.name == "runtime.NumGoroutine") = false
  summ : SummOK P

section
variable {P : Program} {w0 : World} {base lo : Nat} {ι ι1 ι2 : Inj} {H H1 H2 : Heap} {w w1 w2 : World} {ex : ExF}

theorem setParams_sound : ∀ (ts : List Tmp) (vs env env' : List AV), setParams env ts vs = some env' →
    ts.length = vs.length ∧ ((ts.zip (vs.map (AV.conc ι))).foldl (fun (tm : Array Value) (p : Tmp × Value) => tm.setIfInBounds p.1 p.2) (env.map (AV.conc ι)).toArray) = (env'.map (AV.conc ι)).toArray ∧
      ∀ v ∈ env', v ∈ env ∨ v ∈ vs
  | [], [], env, env', h => by simp only [setParams] at h; cases h; exact ⟨rfl, rfl, fun v hv => .inl hv⟩
  | [], _ :: _, env, env', h => by simp [setParams] at h
  | _ :: _, [], env, env', h => by simp [setParams] at h
  | t :: ts, v :: vs, env, env', h => by
    simp only [setParams] at h
    obtain ⟨h1, h2, h3⟩ := setParams_sound ts vs (env.set t v) env' h
    refine ⟨by simp [h1], ?_, fun u hu => ?_⟩
    · simp only [List.map_cons, List.zip_cons_cons, List.foldl_cons]
      rw [← h2]
      congr 1
      simp [List.map_set]
    · rcases h3 u hu with hu | hu
      · rcases List.mem_or_eq_of_mem_set hu with hu | rfl
        · exact .inl hu
        · exact .inr (by simp)
      · exact .inr (by simp [hu])

theorem run_getLoop [E : Env] (s : Sim P w0 base ι H w) {l : Nat} {st : LoopState} {pend : Option Code} {fn : FuncId} {tmps : List AV} {params : List Tmp} {assign body : Code} {d : Nat} (h : H.get l = some (.loop st pend fn tmps params assign body d)) :
    (Instr.getLoop (ι l).1).run P w = .ok { state := st, pending := pend, fn, tmps := (tmps.map (AV.conc ι)).toArray, params := params.toArray, assign, body, defers := (ι d).1 } w ∧
      w.heap[(ι l).1]? = some (.loop { state := st, pending := pend, fn, tmps := (tmps.map (AV.conc ι)).toArray, params := params.toArray, assign, body, defers := (ι d).1 }) := by
  have hr := s.rel l _ h
  simp only [BlkRel] at hr
  exact ⟨by simp [Instr.getLoop, getObj, Sem.run, hr], hr⟩
/-- a loop's record turns -/
theorem Post.loop [E : Env] (s : Sim P w0 base ι H w) {l : Nat} {st : LoopState} {pend : Option Code} {fn : FuncId} {tmps : List AV} {params : List Tmp} {assign body : Code} {d : Nat} (h : H.get l = some (.loop st pend fn tmps params assign body d)) (st' : LoopState) (pend' : Option Code) (hlo : lo ≤ l) :
    ∃ w1, (setObj (ι l).1 (.loop { state := st', pending := pend', fn, tmps := (tmps.map (AV.conc ι)).toArray, params := params.toArray, assign, body, defers := (ι d).1 })).run P w = .ok () w1 ∧
    Post P w0 base lo ι H w ι (H.set l (.loop st' pend' fn tmps params assign body d)) w1 :=
  ⟨_, run_setObj _ _ _ (run_getLoop s h).2 (by simp), Post.putObj s h _ _ hlo (by have h2 := s.ok l _ h; exact h2) rfl⟩

theorem endRoundA_sound [E : Env] (s : Sim P w0 base ι H w) {l : Nat} {jump : Option Code} {v : AV} {H' : Heap} (h : endRoundA H l jump = some (v, H')) (hlo : lo ≤ l) :
    ∃ w', (Instr.endRound (ι l).1 jump).run P w = .ok (v.conc ι) w' ∧ Post P w0 base lo ι H w ι H' w' ∧ v.OK w0 base H'.next := by
  unfold endRoundA at h
  split at h
  · rename_i pend fn tmps params assign body d hb
    cases h
    obtain ⟨w1, h1, h2⟩ := Post.loop (lo := lo) s hb (if jump.isNone then .ready else .done) jump hlo
    refine ⟨_, ?_, h2, trivial⟩
    simp only [Instr.endRound, Sem.run_bind, (run_getLoop s hb).1, Result.andThen_ok, h1, Sem.run_pure, AV.conc]
  · cases h

theorem roundA_sound [E : Env] (hS : Sound P w0 base ex) (s : Sim P w0 base ι H w) {l : Nat} {args : List AV} {v : AV} {H' : Heap} (h : roundA ex lo l args H = some (v, H')) (hargs : ∀ a ∈ args, a.OK w0 base H.next) (hlo : lo ≤ H.next) :
    ∃ f tmps assign body, (Instr.yield (ι l).1 (args.map (AV.conc ι)).toArray).run P w = .ok (.round (ι l).1 f tmps assign body) w ∧
      ∀ (d : Frame) (ds : List Frame), ∃ ι' w', Post P w0 base lo ι H w ι' H' w' ∧ v.OK w0 base H'.next ∧
        Steps P (lone (F ⟨f, .normal, some (ι l).1⟩ ⟨tmps, []⟩ [.code assign, .beginRound, .code body]) (d :: ds) w) (lone (d.finish (v.conc ι')) ds w') := by
  unfold roundA at h
  split at h
  · rename_i st0 pend0 fn tmps params assign body d0 hl
    split at h
    · rename_i hlol
      split at h
      · cases h
      · rename_i env henv
        obtain ⟨e1, e2, e3⟩ := setParams_sound (ι := ι) params args tmps env henv
        refine ⟨fn, (env.map (AV.conc ι)).toArray, assign, body, ?_, fun d ds => ?_⟩
        · simp only [Instr.yield, Sem.run_bind, (run_getLoop s hl).1, Result.andThen_ok]
          rw [if_neg (by simp [e1])]
          simp only [pure_bind, Sem.run_pure]
          congr 2
          rw [← e2]
          simp
        · have hlt := s.lt l _ hl
          have hOKenv : ∀ u ∈ env, u.OK w0 base H.next := fun u hu => by
            rcases e3 u hu with hu | hu
            · exact (s.ok l _ hl).1 u hu
            · exact hargs u hu
          have hA : ARel w0 base lo ι H.next env [] ⟨(env.map (AV.conc ι)).toArray, []⟩ := ⟨rfl, hOKenv, rfl, by simp⟩
          have hC : CRel ι H.next ⟨fn, some l⟩ ⟨fn, .normal, some (ι l).1⟩ := ⟨rfl, rfl, .inr ⟨l, rfl, hlt, rfl⟩⟩
          split at h
          · rename_i env1 H1 hex1
            obtain ⟨ι1, w1, a1, hp1, hA1, hR1⟩ := hS _ _ _ _ _ _ hex1 ι w _ _ s hA hC hlo [.beginRound, .code body] (d :: ds)
            simp only at hp1 hA1
            have hιl : ι1 l = ι l := hp1.ext l hlt
            split at h
            · rename_i pend fn1 tmps1 params1 assign1 body1 d1 hl1
              obtain ⟨wb, hset, hp2⟩ := Post.loop (lo := lo) hp1.sim hl1 .busy pend hlol
              have hbeg : (Instr.beginRound (ι l).1).run P w1 = .ok () wb := by
                rw [← hιl]
                simp only [Instr.beginRound, Sem.run_bind, (run_getLoop hp1.sim hl1).1, Result.andThen_ok, hset]
                rfl
              have hsteps1 : Steps P (lone (F ⟨fn, .normal, some (ι l).1⟩ ⟨(env.map (AV.conc ι)).toArray, []⟩ [.code assign, .beginRound, .code body]) (d :: ds) w) (lone (F ⟨fn, .normal, some (ι l).1⟩ a1 [.code body]) (d :: ds) wb) :=
                Steps.trans hR1 (.one (st_beginRound rfl hbeg))
              have hp12 := hp1.trans hp2
              have hC1 : CRel ι1 H1.next ⟨fn, some l⟩ ⟨fn, .normal, some (ι l).1⟩ := hC.ext hp1.ext hp1.next
              have hlo1 : lo ≤ H1.next := Nat.le_trans hlo hp1.next
              -- the body, whatever way it ends
              have hbody : ∀ e env2 H2, ex ⟨fn, some l⟩ lo body ⟨env1, [], H1.set l (.loop .busy pend fn1 tmps1 params1 assign1 body1 d1)⟩ = some (e, ⟨env2, [], H2⟩) →
                  ∃ ι2 w2 a2, Post P w0 base lo ι H w ι2 H2 w2 ∧ ι2 l = ι l ∧ Reach P (lone (F ⟨fn, .normal, some (ι l).1⟩ ⟨(env.map (AV.conc ι)).toArray, []⟩ [.code assign, .beginRound, .code body]) (d :: ds) w) ⟨fn, .normal, some (ι l).1⟩ [] (d :: ds) e a2 w2 := by
                intro e env2 H2 hex2
                obtain ⟨ι2, w2, a2, hp3, hA3, hR3⟩ := hS _ _ _ _ _ _ hex2 ι1 _ a1 _ hp2.sim hA1 hC1 hlo1 [] (d :: ds)
                have hp := hp12.trans hp3
                exact ⟨ι2, w2, a2, hp, hp.ext l hlt, hR3.of_steps hsteps1⟩
              split at h
              · rename_i env2 H2 hex2
                obtain ⟨ι2, w2, a2, hp, hl2, hR⟩ := hbody _ _ _ hex2
                obtain ⟨w3, hend, hp4, hv⟩ := endRoundA_sound hp.sim h hlol
                rw [hl2] at hend
                exact ⟨ι2, w3, hp.trans hp4, hv, Steps.trans hR (.one (st_endRound rfl rfl hend))⟩
              · rename_i env2 H2 hex2
                obtain ⟨ι2, w2, a2, hp, hl2, hR⟩ := hbody _ _ _ hex2
                obtain ⟨w3, hend, hp4, hv⟩ := endRoundA_sound hp.sim h hlol
                rw [hl2] at hend
                obtain ⟨k1, hR⟩ := hR
                exact ⟨ι2, w3, hp.trans hp4, hv, Steps.trans hR (.one (st_retRound rfl rfl hend))⟩
              · rename_i id env2 H2 hex2
                obtain ⟨ι2, w2, a2, hp, hl2, hR⟩ := hbody _ _ _ hex2
                obtain ⟨w3, hend, hp4, hv⟩ := endRoundA_sound hp.sim h hlol
                rw [hl2] at hend
                obtain ⟨k1, hk1, hR⟩ := hR
                exact ⟨ι2, w3, hp.trans hp4, hv, Steps.trans hR (.one (st_exitRound rfl rfl (by rw [hk1]; rfl) hend))⟩
              · cases h
            · cases h
          · cases h
    · cases h
  · cases h

theorem callA_body [E : Env] {f : FuncId} {args : List AV} {r : AV × Heap} (h : callA P ex lo f args H = some r) : ∃ fn c, P.funcs[f]? = some fn ∧ fn.body = some c := by
  unfold callA at h
  cases hf : P.funcs[f]? with
  | none => simp [hf] at h
  | some fn =>
    cases hb : fn.body with
    | none => simp [hf, hb] at h
    | some c => exact ⟨fn, c, rfl, hb⟩
theorem run_callFunc [E : Env] (hN : Names P) {f : FuncId} {fn : Func} {c : Code} (hf : P.funcs[f]? = some fn) (hb : fn.body = some c) (args : Array Value) : (callFunc f args).run P w = .ok (.enter f args) w := by
  have : fn.name ≠ "runtime.NumGoroutine" := by have := hN.names f fn hf; simpa using this
  simp [callFunc, program, Sem.run, hf, this, hb]

theorem yielded_eq {env : List AV} (ops : Array Oper) (j : Nat) : yielded ops (env.map (AV.conc ι)).toArray j = yieldedA ops env j := by
  unfold yielded yieldedA
  cases hd : (ops[j]?).bind (·.dst) with
  | none => rfl
  | some t =>
    simp only [Option.bind_some, List.getElem?_toArray, List.getElem?_map]
    cases ht : env[t]? with
    | none => rfl
    | some v =>
      simp only [Option.map_some]
      cases v <;> try rfl
      rename_i b; cases b <;> rfl
theorem wanted_eq [E : Env] {env : List AV} (ops : Array Oper) (o : Oper) : Region.wanted o (yielded ops (env.map (AV.conc ι)).toArray) = Region.wanted o (yieldedA ops env) := by
  have : yielded ops (env.map (AV.conc ι)).toArray = yieldedA ops env := funext fun j => yielded_eq ops j
  rw [this]

theorem opA_sound [E : Env] (hN : Names P) (hS : Sound P w0 base ex) (s : Sim P w0 base ι H w) {env : List AV} {o : Oper} {v : AV} {H' : Heap} (h : opA P ex lo env H o = some (v, H')) (hlo : lo ≤ H.next) (c : RC) (a : Act)
    (hE : ∀ x ∈ o.op.operands, Ev w0 base H.next ι env a.eval x) {ops : Array Oper} {i : Nat} (ho : ops[i]? = some o) (hw : Region.wanted o (yielded ops a.tmps) = true) (rest : List Nat) (k : List Item) (cs : List Frame) :
    ∃ ι' w', Post P w0 base lo ι H w ι' H' w' ∧ v.OK w0 base H'.next ∧ Steps P (lone (F c a (.inRegion ops (i :: rest) :: k)) cs w) (lone (F c (a.put o.dst (v.conc ι')) (.inRegion ops rest :: k)) cs w') := by
  by_cases hcall : ∃ f args ats, o.op = .call { callee := .value f, args := args, argTypes := ats }
  · obtain ⟨f, args, ats, hop⟩ := hcall
    have hd : ∀ x, o.op ≠ .defer x := fun x => by rw [hop]; simp
    unfold opA at h
    rw [hop] at h
    simp only at h
    obtain ⟨fv, hfv, h⟩ := bind1 h
    obtain ⟨vs, hvs, h⟩ := bind1 h
    rw [hop] at hE
    obtain ⟨ef, efOK⟩ := hE f (by simp [Op.operands, Call.operands]) fv hfv
    obtain ⟨e1, e2⟩ := evalL_sound (ι := ι) (ρ := a.eval) args.toList vs hvs (fun y hy => hE y (by simp [Op.operands, Call.operands]; exact .inr (by simpa using hy)))
    have e3 : args.map a.eval = (vs.map (AV.conc ι)).toArray := by rw [← e1]; apply Array.ext'; simp
    have hfin : ∀ u, (F c a (.inRegion ops (i :: rest) :: k)).finish u = F c (a.put o.dst u) (.inRegion ops rest :: k) := fun u => by
      rw [F_finish, ho]; rfl
    cases fv with
    | func g first cap =>
      simp only [callV] at h
      simp only [AV.OK] at efOK
      obtain ⟨fn, body, hf, hb⟩ := callA_body h
      have hexec : (execOp a.eval o).run P w = .ok (.enter g ((first ++ vs ++ cap).map (AV.conc ι)).toArray) w := by
        simp only [execOp, hop, resolve, ef, AV.conc, Deferred.ofValue, pure_bind, invoke, e3, concL_eq]
        rw [run_callFunc hN hf hb]
        congr 2
        apply Array.ext'
        simp
      obtain ⟨ι', w', fr, h1, h2, h3, h4, _⟩ := callA_sound hN.summ hS s h (fun x hx => by
        rcases List.mem_append.1 hx with hx | hx
        · rcases List.mem_append.1 hx with hx | hx
          · exact (OKL_iff ..).1 efOK.1 x hx
          · exact e2 x hx
        · exact (OKL_iff ..).1 efOK.2 x hx) hlo (F c a (.inRegion ops (i :: rest) :: k) :: cs)
      refine ⟨ι', w', h1, h2, Steps.head (st_enter ho hw hd hexec) (h3.trans (.one ?_))⟩
      rw [st_leave h4, hfin]
    | yieldf l =>
      simp only [callV] at h
      obtain ⟨f', tmps, assign, body, hy, hround⟩ := roundA_sound hS s h e2 hlo
      have hexec : (execOp a.eval o).run P w = .ok (.round (ι l).1 f' tmps assign body) w := by
        simp only [execOp, hop, resolve, ef, AV.conc, Deferred.ofValue, pure_bind, invoke, e3]
        simpa using hy
      obtain ⟨ι', w', h1, h2, h3⟩ := hround (F c a (.inRegion ops (i :: rest) :: k)) cs
      refine ⟨ι', w', h1, h2, Steps.head (st_round ho hw hd hexec) ?_⟩
      rw [← hfin]; exact h3
    | _ => simp [callV] at h
  · have h' : aop P lo env H o = some (v, H') := by
      unfold opA at h
      split at h
      · rename_i f args ats hop; exact absurd ⟨_, _, _, hop⟩ hcall
      · exact h
    have hd : ∀ x, o.op ≠ .defer x := fun x e => by
      obtain ⟨dst, op, type, pos, after, guard⟩ := o
      simp only at e; subst e; simp [aop] at h'
    obtain ⟨ι', w', h1, h2, h3⟩ := aop_sound s h' a.eval hE hlo
    refine ⟨ι', w', h2, h3, .one (st_val ho hw hd ?_)⟩
    rcases h1 with h1 | ⟨rfl, h1⟩
    · exact .inl h1
    · exact .inr ⟨undef_conc ι', h1⟩

theorem runOps_sound [E : Env] (hN : Names P) (hS : Sound P w0 base ex) (ops : Array Oper) (marks : List Nat) (c : RC) (k : List Item) (cs : List Frame) : ∀ (l : List Oper) (i : Nat) (env : List AV) (H : Heap) (env' : List AV) (H' : Heap) (ι : Inj) (w : World) (a : Act),
    (∀ j, l[j]? = ops[i + j]?) → runOps P ex lo ops l env H = some (env', H') → Sim P w0 base ι H w → ARel w0 base lo ι H.next env marks a → lo ≤ H.next →
    ∃ ι' w' a', Post P w0 base lo ι H w ι' H' w' ∧ ARel w0 base lo ι' H'.next env' marks a' ∧ Steps P (lone (F c a (.inRegion ops (List.range' i l.length) :: k)) cs w) (lone (F c a' (.inRegion ops [] :: k)) cs w')
  | [], i, env, H, env', H', ι, w, a, _, h, s, hA, hlo => by
    simp only [runOps] at h; cases h
    exact ⟨ι, w, a, Post.refl s, hA, Steps.refl P _⟩
  | o :: l, i, env, H, env', H', ι, w, a, hl, h, s, hA, hlo => by
    have ho : ops[i]? = some o := by simpa using (hl 0).symm
    have hl' : ∀ j, l[j]? = ops[i + 1 + j]? := fun j => by have := hl (j + 1); simpa [Nat.add_assoc, Nat.add_comm 1 j] using this
    simp only [runOps] at h
    simp only [List.length_cons, List.range'_succ]
    have hwe : Region.wanted o (yielded ops a.tmps) = Region.wanted o (yieldedA ops env) := by rw [hA.tmps]; exact wanted_eq ops o
    split at h
    · rename_i hwant
      split at h
      · rename_i v H1 hop
        obtain ⟨ι1, w1, hp, hv, hst⟩ := opA_sound hN hS s hop hlo c a (fun x _ => hA.ev s.gl x) ho (by rw [hwe]; exact hwant) (List.range' (i + 1) l.length) k cs
        obtain ⟨ι2, w2, a2, hp2, hA2, hst2⟩ := runOps_sound hN hS ops marks c k cs l (i + 1) _ H1 env' H' ι1 w1 (a.put o.dst (v.conc ι1)) hl' h hp.sim ((hA.ext hp.ext hp.next).put o.dst hv) (Nat.le_trans hlo hp.next)
        exact ⟨ι2, w2, a2, hp.trans hp2, hA2, hst.trans hst2⟩
      · cases h
    · rename_i hwant
      have hsk := st_opSkip (P := P) (c := c) (a := a) (k := k) (cs := cs) (w := w) (ops := ops) (i := i) (rest := List.range' (i + 1) l.length) (by rw [ho]; simp [hwe]; simpa using hwant)
      rw [ho] at hsk
      simp only [Option.bind_some] at hsk
      have hA' := hA.put o.dst (v := undefA) (by simp [undefA, AV.OK, AV.OKL])
      rw [undef_conc] at hA'
      obtain ⟨ι2, w2, a2, hp2, hA2, hst2⟩ := runOps_sound hN hS ops marks c k cs l (i + 1) _ H env' H' ι w (a.put o.dst undef) hl' h s hA' hlo
      exact ⟨ι2, w2, a2, hp2, hA2, Steps.head hsk hst2⟩
end
end Go.Ab
/-! The abstract interpreter is sound, 12: regions whose order is open. Conditions: none. -/
set_option linter.unusedSimpArgs false
set_option linter.unusedVariables false
namespace Go.Ab
open Go Go.RowKit

/-- one quiet operation, as the interpreter takes it -/
def QS [E : Env] (P : Program) (ex : ExF) (ops : Array Oper) (bef : Array Nat) (j : Nat) (o : Oper) (env : List AV) (H : Heap) (kept : List (Nat × Nat × Nat)) (v : AV) (H' : Heap) (kept' : List (Nat × Nat × Nat)) : Prop :=
  (Region.wanted o (yieldedA ops env) = false ∧ v = undefA ∧ H' = H ∧ kept' = kept) ∨
  (Region.wanted o (yieldedA ops env) = true ∧ heapFree o.op = true ∧ opA P ex H.next env H o = some (v, H') ∧ v.all (visA (bef.getD j 0) kept) = true ∧ newOk (visA (bef.getD j 0) kept) H H' = true ∧ kept' = (if H'.next = H.next then kept else (j, H.next, H'.next - H.next) :: kept)) ∨
  (Region.wanted o (yieldedA ops env) = true ∧ ∃ H1, opA P ex H.next env (viewA H (bef.getD j 0) kept) o = some (v, H1) ∧ v.all (visA (bef.getD j 0) kept) = true ∧
    ((H' = H ∧ kept' = kept ∧ (onlyReads o.op = true ∨ v.rf = true)) ∨ (newOk (visA (bef.getD j 0) kept) H H1 = true ∧ H' = growH H H1 ∧ kept' = (j, H.next, H1.next - H.next) :: kept)))

section
variable {P : Program} {w0 : World} {base lo : Nat} {ι ι1 ι2 : Inj} {H H1 H2 : Heap} {w w1 w2 : World} {ex : ExF}

theorem runQuiet_trace [E : Env] (ops : Array Oper) (bef : Array Nat) : ∀ (l : List Oper) (i : Nat) (env : List AV) (H : Heap) (kept : List (Nat × Nat × Nat)) (env' : List AV) (H' : Heap), (∀ j o, l[j]? = some o → ops[i + j]? = some o) →
    runQuiet P ex ops bef i l env H kept = some (env', H') →
    ∃ (e : Nat → List AV) (h : Nat → Heap) (kp : Nat → List (Nat × Nat × Nat)) (val : Nat → AV), e i = env ∧ h i = H ∧ kp i = kept ∧ e (i + l.length) = env' ∧ h (i + l.length) = H' ∧
      ∀ j, i ≤ j → j < i + l.length → ∃ o, ops[j]? = some o ∧ QS P ex ops bef j o (e j) (h j) (kp j) (val j) (h (j + 1)) (kp (j + 1)) ∧ e (j + 1) = putE (e j) o.dst (val j)
  | [], i, env, H, kept, env', H', _, h => by
    simp only [runQuiet] at h; cases h
    exact ⟨fun _ => env, fun _ => H, fun _ => kept, fun _ => undefA, rfl, rfl, rfl, rfl, rfl, fun j h1 h2 => absurd h2 (by simp; omega)⟩
  | o :: l, i, env, H, kept, env', H', hl, h => by
    have ho : ops[i]? = some o := by have := hl 0 o rfl; simpa using this
    have hl' : ∀ j o', l[j]? = some o' → ops[i + 1 + j]? = some o' := fun j o' hj => by have := hl (j + 1) o' (by simpa using hj); simpa [Nat.add_assoc, Nat.add_comm 1 j] using this
    have build : ∀ (v : AV) (H1 : Heap) (k1 : List (Nat × Nat × Nat)), QS P ex ops bef i o env H kept v H1 k1 → runQuiet P ex ops bef (i + 1) l (putE env o.dst v) H1 k1 = some (env', H') →
        ∃ (e : Nat → List AV) (h : Nat → Heap) (kp : Nat → List (Nat × Nat × Nat)) (val : Nat → AV), e i = env ∧ h i = H ∧ kp i = kept ∧ e (i + (o :: l).length) = env' ∧ h (i + (o :: l).length) = H' ∧
          ∀ j, i ≤ j → j < i + (o :: l).length → ∃ o, ops[j]? = some o ∧ QS P ex ops bef j o (e j) (h j) (kp j) (val j) (h (j + 1)) (kp (j + 1)) ∧ e (j + 1) = putE (e j) o.dst (val j) := by
      intro v H1 k1 hq hr
      obtain ⟨e, h, kp, val, e1, e2, e3, e4, e5, e6⟩ := runQuiet_trace ops bef l (i + 1) _ H1 k1 env' H' hl' hr
      refine ⟨fun j => if j = i then env else e j, fun j => if j = i then H else h j, fun j => if j = i then kept else kp j, fun j => if j = i then v else val j, by simp, by simp, by simp, ?_, ?_, fun j h1 h2 => ?_⟩
      · dsimp only; rw [if_neg (by simp), ← e4]; congr 1; simp; omega
      · dsimp only; rw [if_neg (by simp), ← e5]; congr 1; simp; omega
      · by_cases hj : j = i
        · subst hj
          refine ⟨o, ho, ?_, ?_⟩
          · dsimp only; rw [if_pos rfl, if_pos rfl, if_pos rfl, if_pos rfl, if_neg (by omega), if_neg (by omega), e2, e3]; exact hq
          · dsimp only; rw [if_pos rfl, if_pos rfl, if_neg (by omega), e1]
        · obtain ⟨o', h3, h4, h5⟩ := e6 j (by omega) (by simp at h2; omega)
          refine ⟨o', h3, ?_, ?_⟩
          · dsimp only; rw [if_neg hj, if_neg hj, if_neg hj, if_neg hj, if_neg (by omega), if_neg (by omega)]; exact h4
          · dsimp only; rw [if_neg hj, if_neg hj, if_neg (by omega)]; exact h5
    simp only [runQuiet] at h
    split at h
    · rename_i hw
      split at h
      · rename_i hf
        split at h
        · rename_i v H1 hop
          split at h
          · rename_i hc
            simp only [Bool.and_eq_true] at hc
            exact build v H1 _ (.inr (.inl ⟨hw, hf, hop, hc.1, hc.2, rfl⟩)) h
          · cases h
        · cases h
      · split at h
        · rename_i v H1 hop
          split at h
          · cases h
          · rename_i hv
            have hv' : v.all (visA (bef.getD i 0) kept) = true := by simpa using hv
            split at h
            · rename_i hc
              exact build v H kept (.inr (.inr ⟨hw, H1, hop, hv', .inl ⟨rfl, rfl, by simpa using hc⟩⟩)) h
            · split at h
              · cases h
              · rename_i hn
                exact build v _ _ (.inr (.inr ⟨hw, H1, hop, hv', .inr ⟨by simpa using hn, rfl, rfl⟩⟩)) h
        · cases h
    · rename_i hw
      exact build undefA H kept (.inl ⟨by simpa using hw, rfl, rfl, rfl⟩) h

/-- operations that are free of the heap -/
theorem heapFree_indep [E : Env] {env : List AV} {o : Oper} {v : AV} {H' : Heap} (hf : heapFree o.op = true) (h : opA P ex lo env H o = some (v, H')) (K : Heap) (hK : K.next = H.next) :
    (H' = H ∧ opA P ex lo env K o = some (v, K)) ∨ ∃ x, H' = H.push x ∧ opA P ex lo env K o = some (v, K.push x) := by
  have hna : opA P ex lo env H o = aop P lo env H o ∧ opA P ex lo env K o = aop P lo env K o := by
    constructor <;> (unfold opA; split <;> first | rfl | (rename_i hop; rw [hop] at hf; simp [heapFree] at hf))
  rw [hna.1] at h
  rw [hna.2]
  obtain ⟨dst, op, type, pos, after, guard⟩ := o
  have pureCase : ∀ (r : Option AV), r.map (fun v => (v, H)) = some (v, H') → (H' = H ∧ r.map (fun v => (v, K)) = some (v, K)) := fun r hr => by
    obtain ⟨y, hy, e⟩ := map1 hr; cases e; exact ⟨rfl, by simp [hy]⟩
  cases op <;> simp [heapFree] at hf
  case move x => exact .inl (pureCase _ h)
  case assign x => exact .inl (pureCase _ h)
  case pick c a b =>
    simp only [aop] at h ⊢
    split at h
    · exact .inl (pureCase _ h)
    · cases h
  case alloc t =>
    simp only [aop] at h ⊢
    cases hz : zeroA P t with
    | none => simp [hz] at h
    | some z =>
      cases hs : sizeA P t with
      | none => simp [hz, hs] at h
      | some sz =>
        simp only [hz, hs] at h ⊢
        split at h
        · rename_i hc; cases h; exact .inr ⟨_, rfl, by rw [if_pos hc, hK]⟩
        · cases h
  case box t x =>
    simp only [aop] at h ⊢
    cases hz : evalO env x with
    | none => simp [hz] at h
    | some z =>
      cases hs : sizeA P t with
      | none => simp [hz, hs] at h
      | some sz =>
        simp only [hz, hs] at h ⊢
        split at h
        · rename_i hc; cases h; exact .inr ⟨_, rfl, by rw [if_pos hc, hK]⟩
        · cases h
  case build t ps =>
    obtain ⟨q, hq, h⟩ := bind1 h
    simp only [aop, hq, Option.bind_some]
    exact .inl (pureCase _ h)
  case buildSlice t len ps =>
    obtain ⟨q, hq, h⟩ := bind1 h
    simp only [aop, hq, Option.bind_some]
    unfold buildSliceA at h ⊢
    split at h
    · split at h
      · split at h
        · rename_i hc
          split at h
          · rename_i cs hcs; cases h; exact .inr ⟨_, rfl, by simp [hc, hcs, hK, *]⟩
          · cases h
        · cases h
      · cases h
    · cases h
  case nilCheck x =>
    simp only [aop] at h ⊢
    split at h <;> cases h <;> exact .inl ⟨rfl, by simp [*]⟩
  case binOp op t x y yt =>
    obtain ⟨p, hp, h⟩ := bind1 h
    obtain ⟨q, hq, h⟩ := bind1 h
    simp only [aop, hp, hq, Option.bind_some]
    exact .inl (pureCase _ h)
  case unOp op t x =>
    obtain ⟨p, hp, h⟩ := bind1 h
    simp only [aop, hp, Option.bind_some]
    exact .inl (pureCase _ h)
  case makeInterface t x =>
    simp only [aop] at h ⊢
    split at h
    · cases h
    · cases h
    · exact .inl (pureCase _ h)
  case makeFunc fn first cap =>
    cases fn with
    | func f =>
      simp only [aop] at h ⊢
      obtain ⟨p, hp, h⟩ := bind1 h
      obtain ⟨q, hq, h⟩ := bind1 h
      cases h
      exact .inl ⟨rfl, by simp [hp, hq]⟩
    | _ => simp [aop] at h
  case makeMap t r =>
    cases r with
    | none => simp only [aop] at h ⊢; cases h; exact .inr ⟨_, rfl, by rw [hK]⟩
    | some x =>
      simp only [aop] at h ⊢
      split at h
      · cases h; exact .inr ⟨_, rfl, by simp [hK, *]⟩
      · cases h
  case makeSlice t l c =>
    obtain ⟨p, hp, h⟩ := bind1 h
    obtain ⟨q, hq, h⟩ := bind1 h
    simp only [aop, hp, hq, Option.bind_some]
    unfold makeSliceA at h ⊢
    split at h
    · split at h
      · split at h
        · rename_i hc; cases h; exact .inr ⟨_, rfl, by simp only [*, if_true]⟩
        · cases h
      · cases h
    · cases h
  case fieldAddr t x i =>
    obtain ⟨p, hp, h⟩ := bind1 h
    simp only [aop, hp, Option.bind_some]
    exact .inl (pureCase _ h)
  case field t x i =>
    obtain ⟨p, hp, h⟩ := bind1 h
    simp only [aop, hp, Option.bind_some]
    exact .inl (pureCase _ h)
  case indexAddr t x i =>
    obtain ⟨p, hp, h⟩ := bind1 h
    obtain ⟨q, hq, h⟩ := bind1 h
    simp only [aop, hp, hq, Option.bind_some]
    exact .inl (pureCase _ h)
  case index t x i =>
    obtain ⟨p, hp, h⟩ := bind1 h
    obtain ⟨q, hq, h⟩ := bind1 h
    simp only [aop, hp, hq, Option.bind_some]
    exact .inl (pureCase _ h)
  case extract x i =>
    simp only [aop] at h ⊢
    split at h
    · exact .inl (pureCase _ h)
    · cases h

theorem copyR_get (K : Heap) (b : Nat) : ∀ (n a : Nat) (H : Heap), (copyR H K a n).get b = if a ≤ b ∧ b < a + n then K.get b else H.get b
  | 0, a, H => by simp only [copyR]; rw [if_neg (by omega)]
  | n + 1, a, H => by
    simp only [copyR]
    rw [copyR_get K b n (a + 1) (H.setO a (K.get a)), Heap.get_setO]
    by_cases e : b = a
    · subst e
      rw [if_neg (by omega), if_pos rfl, if_pos (by omega)]
    · by_cases h : a + 1 ≤ b ∧ b < a + 1 + n
      · rw [if_pos h, if_pos (by omega)]
      · rw [if_neg h, if_neg e, if_neg (by omega)]
theorem growH_get [E : Env] (H K : Heap) (b : Nat) : (growH H K).get b = if H.next ≤ b ∧ b < H.next + (K.next - H.next) then K.get b else H.get b := copyR_get K b _ _ H
theorem hideR_get (b : Nat) : ∀ (n a : Nat) (H : Heap), (hideR H a n).get b = if a ≤ b ∧ b < a + n then none else H.get b
  | 0, a, H => by simp only [hideR]; rw [if_neg (by omega)]
  | n + 1, a, H => by
    simp only [hideR]
    rw [hideR_get b n (a + 1) (H.kill a), Heap.get_kill]
    by_cases e : b = a
    · subst e
      rw [if_neg (by omega), if_pos rfl, if_pos (by omega)]
    · by_cases h : a + 1 ≤ b ∧ b < a + 1 + n
      · rw [if_pos h, if_pos (by omega)]
      · rw [if_neg h, if_neg e, if_neg (by omega)]
theorem hideR_next : ∀ (n a : Nat) (H : Heap), (hideR H a n).next = H.next
  | 0, _, _ => rfl
  | n + 1, a, H => by simp only [hideR]; rw [hideR_next]; rfl
theorem viewA_next [E : Env] (bef : Nat) : ∀ (kept : List (Nat × Nat × Nat)) (H : Heap), (viewA H bef kept).next = H.next
  | [], _ => rfl
  | (j, a, n) :: rest, H => by
    simp only [viewA]
    rw [viewA_next bef rest]
    split
    · rfl
    · exact hideR_next _ _ _
theorem viewA_get [E : Env] (bef : Nat) : ∀ (kept : List (Nat × Nat × Nat)) (H : Heap) (b : Nat) (x : Blk), (viewA H bef kept).get b = some x → H.get b = some x ∧ ∀ q ∈ kept, bef.testBit q.1 = false → ¬ (q.2.1 ≤ b ∧ b < q.2.1 + q.2.2)
  | [], _, _, _, h => ⟨h, by simp⟩
  | (j, a, n) :: rest, H, b, x, h => by
    simp only [viewA] at h
    obtain ⟨h1, h2⟩ := viewA_get bef rest _ b x h
    split at h1
    · rename_i hj
      refine ⟨h1, fun q hq hqb => ?_⟩
      rcases List.mem_cons.1 hq with rfl | hq
      · simp [hj] at hqb
      · exact h2 q hq hqb
    · rw [hideR_get] at h1
      split at h1
      · cases h1
      · rename_i hn
        refine ⟨h1, fun q hq hqb => ?_⟩
        rcases List.mem_cons.1 hq with rfl | hq
        · exact hn
        · exact h2 q hq hqb

theorem onlyReads_heap [E : Env] {env : List AV} {o : Oper} {v : AV} {H' : Heap} (hf : onlyReads o.op = true) (h : opA P ex lo env H o = some (v, H')) : H' = H := by
  have hna : opA P ex lo env H o = aop P lo env H o := by
    unfold opA; split <;> first | rfl | (rename_i hop; rw [hop] at hf; simp [onlyReads] at hf)
  rw [hna] at h
  obtain ⟨dst, op, type, pos, after, guard⟩ := o
  cases op <;> simp [onlyReads] at hf
  case load t a =>
    obtain ⟨x, hx, h⟩ := bind1 h
    obtain ⟨y, hy, e⟩ := map1 h; cases e; rfl
  case slice t x l hi mx =>
    simp only [aop] at h
    split at h
    · cases h
    · obtain ⟨q, hq, h⟩ := bind1 h
      split at h
      · cases h
      · cases h
      · obtain ⟨y, hy, e⟩ := map1 h; cases e; rfl
  case lookup t x i ok =>
    obtain ⟨p, hp, h⟩ := bind1 h
    obtain ⟨q, hq, h⟩ := bind1 h
    obtain ⟨y, hy, e⟩ := map1 h; cases e; rfl
end
end Go.Ab
/-! The abstract interpreter is sound, 13: regions whose order is open: whatever order the machine draws. Conditions: none. -/
set_option linter.unusedSimpArgs false
set_option linter.unusedVariables false
namespace Go.Ab
open Go Go.RowKit

def dstOf (ops : Array Oper) (i : Nat) : Option Tmp := (ops[i]?).bind (·.dst)
/-- what temporary t holds when the operations below i that D lists have been carried out in the text's order -/
def valT (ops : Array Oper) (env0 : List AV) (val : Nat → AV) (D : Nat → Bool) : Nat → Nat → Option AV
  | 0, t => env0[t]?
  | i + 1, t => if D i = true ∧ dstOf ops i = some t ∧ t < env0.length then some (val i) else valT ops env0 val D i t

section
variable {P : Program} {w0 : World} {base lo : Nat} {ι ι1 ι2 : Inj} {H H1 H2 : Heap} {w w1 w2 : World} {ex : ExF}

theorem testBit_foldl (bef : Array Nat) (j : Nat) : ∀ (l : List Edge) (s : Nat), (l.foldl (fun s e => if Region.binds .any e then s ||| 2 ^ e.on ||| bef.getD e.on 0 else s) s).testBit j = true →
    s.testBit j = true ∨ ∃ e ∈ l, Region.binds .any e = true ∧ (j = e.on ∨ (bef.getD e.on 0).testBit j = true)
  | [], s, h => .inl h
  | e :: l, s, h => by
    simp only [List.foldl_cons] at h
    rcases testBit_foldl bef j l _ h with h | ⟨e', he', h1, h2⟩
    · split at h
      · rename_i hb
        rw [Nat.testBit_or, Nat.testBit_or, Nat.testBit_two_pow] at h
        simp only [Bool.or_eq_true, decide_eq_true_eq] at h
        rcases h with (h | h) | h
        · exact .inl h
        · exact .inr ⟨e, by simp, hb, .inl h.symm⟩
        · exact .inr ⟨e, by simp, hb, .inr h⟩
      · exact .inl h
    · exact .inr ⟨e', by simp [he'], h1, h2⟩

/-- what a region's order rests on -/
structure Order (ops : Array Oper) (bef : Array Nat) : Prop where
  via : ∀ i o j, ops[i]? = some o → (bef.getD i 0).testBit j = true → ∃ e ∈ o.after.toList, Region.binds .any e = true ∧ (j = e.on ∨ (bef.getD e.on 0).testBit j = true)
  back : ∀ i o, ops[i]? = some o → ∀ e ∈ o.after.toList, Region.binds .any e = true → e.on < i

theorem edgesOk_back : ∀ (l : List Oper) (i : Nat), edgesOk i l = true → ∀ j o, l[j]? = some o → ∀ e ∈ o.after.toList, Region.binds .any e = true → e.on < i + j
  | [], i, _, j, o, ho, _, _, _ => by simp at ho
  | x :: l, i, h, j, o, ho, e, he, hb => by
    simp only [edgesOk, Bool.and_eq_true] at h
    cases j with
    | zero =>
      simp only [List.getElem?_cons_zero, Option.some.injEq] at ho
      subst ho
      have := Array.all_eq_true'.1 h.1 e (by simpa using he)
      simp [hb] at this
      simpa using this
    | succ j =>
      have := edgesOk_back l (i + 1) h.2 j o (by simpa using ho) e he hb
      omega

theorem order_of [E : Env] {ops : Array Oper} {bef : Array Nat} (h1 : edgesOk 0 ops.toList = true) (h2 : befOk ops bef = true) : Order ops bef where
  via := fun i o j ho hj => by
    have hi : i < ops.size := (Array.getElem?_eq_some_iff.1 ho).1
    simp only [befOk, Bool.and_eq_true] at h2
    have := List.all_eq_true.1 h2.2 i (List.mem_range.2 hi)
    simp only [ho, beq_iff_eq] at this
    rw [this] at hj
    rcases testBit_foldl bef j _ 0 hj with h | h
    · simp at h
    · exact h
  back := fun i o ho e he hb => by
    have := edgesOk_back ops.toList 0 h1 i o (by simpa using ho) e he hb
    omega

theorem Order.bits {ops : Array Oper} {bef : Array Nat} (r : Order ops bef) (hn : ∀ i, ops.size ≤ i → bef.getD i 0 = 0) : ∀ i j, (bef.getD i 0).testBit j = true → j < i := by
  intro i
  induction i using Nat.strongRecOn with
  | _ i ih =>
    intro j hj
    by_cases hi : i < ops.size
    · have ho : ops[i]? = some ops[i] := Array.getElem?_eq_getElem hi
      obtain ⟨e, he, hb, h⟩ := r.via i _ j ho hj
      have hlt := r.back i _ ho e he hb
      rcases h with rfl | h
      · exact hlt
      · exact Nat.lt_trans (ih _ hlt j h) hlt
    · rw [hn i (by omega)] at hj; simp at hj

theorem afterAll_iff (b : Nat) : ∀ i, afterAll b i = true ↔ ∀ j, j < i → b.testBit j = true
  | 0 => by simp [afterAll]
  | i + 1 => by
    simp only [afterAll, Bool.and_eq_true, afterAll_iff b i]
    constructor
    · rintro ⟨h1, h2⟩ j hj
      by_cases e : j = i
      · subst e; exact h1
      · exact h2 j (by omega)
    · intro h; exact ⟨h i (by omega), fun j hj => h j (by omega)⟩
theorem quietLen_le (bef : Array Nat) : ∀ n, quietLen bef n ≤ n
  | 0 => by simp [quietLen]
  | n + 1 => by simp only [quietLen]; split; have := quietLen_le bef n; omega; omega
theorem quietLen_after (bef : Array Nat) : ∀ n i, quietLen bef n ≤ i → i < n → afterAll (bef.getD i 0) i = true
  | 0, i, _, h => by omega
  | n + 1, i, h1, h2 => by
    simp only [quietLen] at h1
    split at h1
    · rename_i ha
      by_cases e : i = n
      · subst e; exact ha
      · exact quietLen_after bef n i h1 (by omega)
    · omega

/-! ### the machine's order -/
theorem ready_iff {ops : Array Oper} {listed : Array Bool} {i : Nat} (hs : listed.size = ops.size) : i ∈ Region.ready .any ops listed ↔ ∃ o, ops[i]? = some o ∧ listed.getD i false = false ∧ ∀ e ∈ o.after.toList, Region.binds .any e = true → listed.getD e.on false = true := by
  unfold Region.ready
  rw [List.mem_filter, List.mem_range]
  constructor
  · rintro ⟨hi, h⟩
    have ho : ops[i]? = some ops[i] := Array.getElem?_eq_getElem hi
    rw [ho] at h
    simp only [Bool.and_eq_true, Bool.not_eq_true', Option.map_some, Option.getD_some] at h
    refine ⟨_, ho, ?_, fun e he hb => ?_⟩
    · have : listed[i]? = some listed[i] := Array.getElem?_eq_getElem (by omega)
      simp only [Array.getD_eq_getD_getElem?, this, Option.getD_some] at h ⊢; exact h.1
    · have := Array.all_eq_true'.1 h.2 e (by simpa using he)
      simpa [hb] using this
  · rintro ⟨o, ho, h1, h2⟩
    have hi : i < ops.size := (Array.getElem?_eq_some_iff.1 ho).1
    refine ⟨hi, ?_⟩
    rw [ho]
    simp only [Bool.and_eq_true, Bool.not_eq_true', Option.map_some, Option.getD_some]
    refine ⟨?_, Array.all_eq_true'.2 fun e he => ?_⟩
    · have : listed[i]? = some listed[i] := Array.getElem?_eq_getElem (by omega)
      simp only [Array.getD_eq_getD_getElem?, this, Option.getD_some] at h1 ⊢; exact h1
    · cases hb : Region.binds .any e with
      | false => simp
      | true => simpa using h2 e (by simpa using he) hb

theorem go_step (ops : Array Oper) (fuel t : Nat) (listed : Array Bool) (hne : Region.ready .any ops listed ≠ []) :
    ∃ i t', i ∈ Region.ready .any ops listed ∧ Region.linearise.go .any ops (fuel + 1) t listed [] = i :: Region.linearise.go .any ops fuel t' (listed.setIfInBounds i true) [] := by
  have hlen : 0 < (Region.ready .any ops listed).length := List.length_pos_iff.2 hne
  have hlt : t % (Region.ready .any ops listed).length < (Region.ready .any ops listed).length := Nat.mod_lt _ hlen
  refine ⟨(Region.ready .any ops listed)[t % (Region.ready .any ops listed).length], t / (Region.ready .any ops listed).length, List.getElem_mem hlt, ?_⟩
  simp only [Region.linearise.go]
  change (match (Region.ready .any ops listed)[t % (Region.ready .any ops listed).length]? with
      | some i => Region.linearise.go .any ops fuel (t / (Region.ready .any ops listed).length) (listed.setIfInBounds i true) [i]
      | none => [].reverse) = _
  rw [List.getElem?_eq_getElem hlt]
  simp only
  rw [linearise_go_acc]
  rfl

/-- some operation is ready while one is not listed -/
theorem ready_ne [E : Env] {ops : Array Oper} {bef : Array Nat} (r : Order ops bef) {listed : Array Bool} (hs : listed.size = ops.size) {i : Nat} (hi : i < ops.size) (hl : listed.getD i false = false) : Region.ready .any ops listed ≠ [] := by
  have key : ∀ i, i < ops.size → listed.getD i false = false → ∃ j, j ∈ Region.ready .any ops listed := by
    intro i
    induction i using Nat.strongRecOn with
    | _ i ih =>
      intro hi hl
      have ho : ops[i]? = some ops[i] := Array.getElem?_eq_getElem hi
      by_cases hall : ∀ e ∈ ops[i].after.toList, Region.binds .any e = true → listed.getD e.on false = true
      · exact ⟨i, (ready_iff hs).2 ⟨_, ho, hl, hall⟩⟩
      · have : ∃ e ∈ ops[i].after.toList, Region.binds .any e = true ∧ listed.getD e.on false = false := by
          apply Classical.byContradiction
          intro hn
          apply hall
          intro e he hb
          cases hx : listed.getD e.on false with
          | true => rfl
          | false => exact absurd ⟨e, he, hb, hx⟩ hn
        obtain ⟨e, he, hb, hx⟩ := this
        have hlt := r.back i _ ho e he hb
        exact ih e.on hlt (by omega) hx
  obtain ⟨j, hj⟩ := key i hi hl
  exact List.ne_nil_of_mem hj

theorem getD_set (listed : Array Bool) (i j : Nat) (hi : i < listed.size) : (listed.setIfInBounds i true).getD j false = if j = i then true else listed.getD j false := by
  simp only [Array.getD_eq_getD_getElem?]
  by_cases e : j = i
  · subst e; rw [if_pos rfl, Array.getElem?_setIfInBounds_self_of_lt hi]; rfl
  · rw [if_neg e, Array.getElem?_setIfInBounds_ne (fun h => e h.symm)]

/-- from m on the order is the text's -/
theorem seqOrder [E : Env] {ops : Array Oper} {bef : Array Nat} (r : Order ops bef) (hn : ∀ i, ops.size ≤ i → bef.getD i 0 = 0) : ∀ (k j t : Nat) (listed : Array Bool), listed.size = ops.size → j + k = ops.size → (∀ i, i < ops.size → listed.getD i false = decide (i < j)) →
    (∀ i, j ≤ i → i < ops.size → afterAll (bef.getD i 0) i = true) → Region.linearise.go .any ops k t listed [] = List.range' j k
  | 0, j, t, listed, _, _, _, _ => rfl
  | k + 1, j, t, listed, hs, hk, hl, ha => by
    have hj : j < ops.size := by omega
    obtain ⟨i, t', hi, hgo⟩ := go_step ops k t listed (ready_ne r hs hj (by rw [hl j hj]; simp))
    obtain ⟨o, ho, h1, h2⟩ := (ready_iff hs).1 hi
    have hio : i < ops.size := (Array.getElem?_eq_some_iff.1 ho).1
    rw [hl i hio] at h1
    have hge : j ≤ i := by simpa using h1
    have hij : i = j := by
      apply Classical.byContradiction
      intro hne
      have hbit := (afterAll_iff _ i).1 (ha i hge hio) j (by omega)
      obtain ⟨e, he, hb, h⟩ := r.via i o j ho hbit
      have hlisted := h2 e he hb
      have hlt := r.back i o ho e he hb
      rw [hl e.on (by omega)] at hlisted
      have hej : e.on < j := by simpa using hlisted
      rcases h with h | h
      · omega
      · have := r.bits hn _ _ h; omega
    subst hij
    rw [hgo, List.range'_succ]
    congr 1
    exact seqOrder r hn k (i + 1) t' _ (by simpa using hs) (by omega) (fun q hq => by
      rw [getD_set _ _ _ (by omega)]
      by_cases e : q = i
      · subst e; simp
      · rw [if_neg e, hl q hq]
        have : (q < i) ↔ (q < i + 1) := by omega
        simp [this]) (fun q h1 h2 => ha q (by omega) h2)
end
end Go.Ab
/-! The abstract interpreter is sound, 14: a quiet operation, at whatever place of the machine's order. Conditions: none. -/
set_option linter.unusedSimpArgs false
set_option linter.unusedVariables false
namespace Go.Ab
open Go Go.RowKit

mutual
theorem conc_all {p : Nat → Bool} {ι ι' : Inj} (h : ∀ b, p b = true → ι' b = ι b) : ∀ v : AV, v.all p = true → v.conc ι' = v.conc ι
  | .bool _, _ | .int _ _, _ | .str _, _ | .nilp, _ | .nilf, _ | .nili, _ | .map none, _ => rfl
  | .ptr b _, k => by simp only [AV.all] at k; simp [AV.conc, h b k]
  | .sl b _ _ _, k => by simp only [AV.all] at k; simp [AV.conc, h b k]
  | .map (some b), k => by simp only [AV.all] at k; simp [AV.conc, h b k]
  | .yieldf b, k => by simp only [AV.all] at k; simp [AV.conc, h b k]
  | .rptr _ _, _ | .rsl _ _ _ _, _ => rfl
  | .func _ a b, k => by simp only [AV.all, Bool.and_eq_true] at k; simp only [AV.conc, concL_all h a k.1, concL_all h b k.2]
  | .iface _ v, k => by simp only [AV.all] at k; simp only [AV.conc, conc_all h v k]
  | .agg l, k | .tup l, k => by simp only [AV.all] at k; simp only [AV.conc, concL_all h l k]
theorem concL_all {p : Nat → Bool} {ι ι' : Inj} (h : ∀ b, p b = true → ι' b = ι b) : ∀ l : List AV, AV.allL p l = true → AV.concL ι' l = AV.concL ι l
  | [], _ => rfl
  | v :: vs, k => by simp only [AV.allL, Bool.and_eq_true] at k; simp only [AV.concL, conc_all h v k.1, concL_all h vs k.2]
end
mutual
theorem all_and {p q : Nat → Bool} : ∀ v : AV, v.all p = true → v.all q = true → v.all (fun b => p b && q b) = true
  | .bool _, _, _ | .int _ _, _, _ | .str _, _, _ | .nilp, _, _ | .nilf, _, _ | .nili, _, _ | .map none, _, _ | .rptr _ _, _, _ | .rsl _ _ _ _, _, _ => rfl
  | .ptr b _, h, k | .sl b _ _ _, h, k | .map (some b), h, k | .yieldf b, h, k => by simp only [AV.all] at h k ⊢; simp [h, k]
  | .func _ a b, h, k => by simp only [AV.all, Bool.and_eq_true] at h k ⊢; exact ⟨allL_and a h.1 k.1, allL_and b h.2 k.2⟩
  | .iface _ v, h, k => by simp only [AV.all] at h k ⊢; exact all_and v h k
  | .agg l, h, k | .tup l, h, k => by simp only [AV.all] at h k ⊢; exact allL_and l h k
theorem allL_and {p q : Nat → Bool} : ∀ l : List AV, AV.allL p l = true → AV.allL q l = true → AV.allL (fun b => p b && q b) l = true
  | [], _, _ => rfl
  | v :: vs, h, k => by simp only [AV.allL, Bool.and_eq_true] at h k ⊢; exact ⟨all_and v h.1 k.1, allL_and vs h.2 k.2⟩
end
mutual
theorem all_lt {w0 : World} {base n : Nat} : ∀ v : AV, v.OK w0 base n → v.all (fun b => decide (b < n)) = true
  | .bool _, _ | .int _ _, _ | .str _, _ | .nilp, _ | .nilf, _ | .nili, _ | .map none, _ | .rptr _ _, _ | .rsl _ _ _ _, _ => rfl
  | .ptr b _, k | .sl b _ _ _, k | .map (some b), k | .yieldf b, k => by simp only [AV.OK] at k; simp [AV.all, k]
  | .func _ a b, k => by simp only [AV.OK] at k; simp only [AV.all, Bool.and_eq_true]; exact ⟨allL_lt a k.1, allL_lt b k.2⟩
  | .iface _ v, k => by simp only [AV.OK] at k; simp only [AV.all]; exact all_lt v k
  | .agg l, k | .tup l, k => by simp only [AV.OK] at k; simp only [AV.all]; exact allL_lt l k
theorem allL_lt {w0 : World} {base n : Nat} : ∀ l : List AV, AV.OKL w0 base n l → AV.allL (fun b => decide (b < n)) l = true
  | [], _ => rfl
  | v :: vs, k => by simp only [AV.OKL] at k; simp only [AV.allL, Bool.and_eq_true]; exact ⟨all_lt v k.1, allL_lt vs k.2⟩
end
theorem allL_iff (p : Nat → Bool) : ∀ l : List AV, AV.allL p l = true ↔ ∀ v ∈ l, v.all p = true
  | [] => by simp [AV.allL]
  | v :: vs => by simp [AV.allL, allL_iff p vs]

section
variable {P : Program} {w0 : World} {base lo : Nat} {ι ι1 ι2 : Inj} {H H1 H2 : Heap} {w w1 w2 : World} {ex : ExF}

theorem BlkRel.all [E : Env] {p : Nat → Bool} (h : ∀ b, p b = true → ι1 b = ι b) {x : Blk} (k : x.all p = true) {cap : Nat} {o : Option Obj} (r : BlkRel P ι cap o x) : BlkRel P ι1 cap o x := by
  cases x with
  | cells t cs =>
    obtain ⟨c, ho, ⟨rest, hr⟩, hs⟩ := r
    refine ⟨c, ho, ⟨rest, ?_⟩, hs⟩
    simp only [Blk.all] at k
    rw [hr, ← concL_eq, ← concL_eq, concL_all h cs k]
  | map es c =>
    simp only [BlkRel, mapEntries] at r ⊢
    simp only [Blk.all, List.all_eq_true, Bool.and_eq_true] at k
    rw [r]
    congr 2
    refine congrArg List.toArray (List.map_congr_left fun e he => ?_)
    rw [conc_all h _ (k e he).1, conc_all h _ (k e he).2]
  | iter s p => exact r
  | loop st pend fn tmps params assign body d =>
    simp only [Blk.all, Bool.and_eq_true] at k
    simp only [BlkRel] at r ⊢
    rw [r, ← concL_eq, ← concL_eq, concL_all h tmps k.1, h d k.2]
  | dfr => exact r
theorem BlkOK.all_lt [E : Env] {n : Nat} {x : Blk} (k : BlkOK w0 base n x) : x.all (fun b => decide (b < n)) = true := by
  cases x with
  | cells t cs => simp only [Blk.all]; exact allL_lt cs ((OKL_iff ..).2 k)
  | map es c => simp only [Blk.all, List.all_eq_true, Bool.and_eq_true]; exact fun e he => ⟨Go.Ab.all_lt _ (k e he).1, Go.Ab.all_lt _ (k e he).2⟩
  | loop st pend fn tmps params assign body d => simp only [Blk.all, Bool.and_eq_true]; exact ⟨allL_lt tmps ((OKL_iff ..).2 k.1), by simpa using k.2⟩
  | _ => rfl
theorem Blk.all_and [E : Env] {p q : Nat → Bool} {x : Blk} (h : x.all p = true) (k : x.all q = true) : x.all (fun b => p b && q b) = true := by
  cases x with
  | cells t cs => simp only [Blk.all] at h k ⊢; exact allL_and cs h k
  | map es c =>
    simp only [Blk.all, List.all_eq_true, Bool.and_eq_true] at h k ⊢
    exact fun e he => ⟨Go.Ab.all_and _ (h e he).1 (k e he).1, Go.Ab.all_and _ (h e he).2 (k e he).2⟩
  | loop st pend fn tmps params assign body d => simp only [Blk.all, Bool.and_eq_true] at h k ⊢; exact ⟨allL_and tmps h.1 k.1, h.2, k.2⟩
  | _ => rfl

/-- the quiet operations as the interpreter took them, in the text's order -/
structure Trace [E : Env] (P : Program) (ex : ExF) (ops : Array Oper) (bef : Array Nat) (m : Nat) (e : Nat → List AV) (h : Nat → Heap) (kp : Nat → List (Nat × Nat × Nat)) (val : Nat → AV) : Prop where
  k0 : kp 0 = []
  step : ∀ j, j < m → ∃ o, ops[j]? = some o ∧ QS P ex ops bef j o (e j) (h j) (kp j) (val j) (h (j + 1)) (kp (j + 1)) ∧ e (j + 1) = putE (e j) o.dst (val j)

section
variable {ops : Array Oper} {bef : Array Nat} {m : Nat} {e : Nat → List AV} {h : Nat → Heap} {kp : Nat → List (Nat × Nat × Nat)} {val : Nat → AV}

/-- how the heap and what is noted of it go on -/
theorem Trace.one [E : Env] (T : Trace P ex ops bef m e h kp val) {j : Nat} (hj : j < m) :
    (h j).next ≤ (h (j + 1)).next ∧ (∀ b, b < (h j).next → (h (j + 1)).get b = (h j).get b) ∧
    ((kp (j + 1) = kp j ∧ (h (j + 1)).next = (h j).next) ∨ kp (j + 1) = (j, (h j).next, (h (j + 1)).next - (h j).next) :: kp j) := by
  obtain ⟨o, ho, hq, _⟩ := T.step j hj
  rcases hq with ⟨_, _, h1, h2⟩ | ⟨_, hf, hop, _, _, h2⟩ | ⟨_, K, hop, _, ⟨h1, h2, _⟩ | ⟨_, h1, h2⟩⟩
  · rw [h1, h2]; exact ⟨Nat.le_refl _, fun _ _ => rfl, .inl ⟨rfl, rfl⟩⟩
  · rcases heapFree_indep hf hop (h j) rfl with ⟨h1, _⟩ | ⟨x, h1, _⟩
    · rw [h1] at h2 ⊢
      simp only [if_true] at h2
      exact ⟨Nat.le_refl _, fun _ _ => rfl, .inl ⟨h2, rfl⟩⟩
    · rw [h1] at h2 ⊢
      refine ⟨by simp, fun b hb => by rw [Heap.get_push, if_neg (by omega)], .inr ?_⟩
      rw [h2, if_neg (by simp)]
  · rw [h1, h2]; exact ⟨Nat.le_refl _, fun _ _ => rfl, .inl ⟨rfl, rfl⟩⟩
  · rw [h1, h2]
    refine ⟨by simp [growH], fun b hb => by rw [growH_get, if_neg (by omega)], .inr ?_⟩
    simp [growH]
theorem Trace.mono [E : Env] (T : Trace P ex ops bef m e h kp val) : ∀ i j, i ≤ j → j ≤ m → (h i).next ≤ (h j).next ∧ ∀ b, b < (h i).next → (h j).get b = (h i).get b := by
  intro i j hij
  induction hij with
  | refl => exact fun _ => ⟨Nat.le_refl _, fun _ _ => rfl⟩
  | step hij ih =>
    rename_i j
    intro hj
    obtain ⟨h1, h2⟩ := ih (by omega)
    obtain ⟨h3, h4, _⟩ := T.one (j := j) (by omega)
    exact ⟨Nat.le_trans h1 h3, fun b hb => (h4 b (by omega)).trans (h2 b hb)⟩
theorem Trace.kept [E : Env] (T : Trace P ex ops bef m e h kp val) : ∀ i, i ≤ m → (∀ q ∈ kp i, q.1 < i ∧ q.2.1 = (h q.1).next ∧ q.2.1 + q.2.2 = (h (q.1 + 1)).next) ∧ ∀ j, j < i → (h j).next < (h (j + 1)).next → ∃ q ∈ kp i, q.1 = j
  | 0, _ => by rw [T.k0]; exact ⟨by simp, fun j hj => by omega⟩
  | i + 1, hi => by
    obtain ⟨k1, k2⟩ := T.kept i (by omega)
    obtain ⟨h1, _, h3⟩ := T.one (j := i) (by omega)
    rcases h3 with ⟨h3, h4⟩ | h3
    · rw [h3]
      refine ⟨fun q hq => ?_, fun j hj hlt => ?_⟩
      · obtain ⟨a, b⟩ := k1 q hq; exact ⟨by omega, b⟩
      · by_cases e : j = i
        · subst e; omega
        · exact k2 j (by omega) hlt
    · rw [h3]
      refine ⟨fun q hq => ?_, fun j hj hlt => ?_⟩
      · rcases List.mem_cons.1 hq with rfl | hq
        · exact ⟨by simp, rfl, by simp; omega⟩
        · obtain ⟨a, b⟩ := k1 q hq; exact ⟨by omega, b⟩
      · by_cases e : j = i
        · subst e; exact ⟨_, List.mem_cons_self, rfl⟩
        · obtain ⟨q, hq, e2⟩ := k2 j (by omega) hlt
          exact ⟨q, by simp [hq], e2⟩
theorem putE_length (env : List AV) (d : Option Tmp) (v : AV) : (putE env d v).length = env.length := by cases d <;> simp [putE]
theorem Trace.env [E : Env] (T : Trace P ex ops bef m e h kp val) : ∀ i, i ≤ m → (e i).length = (e 0).length ∧ ∀ t, (e i)[t]? = valT ops (e 0) val (fun _ => true) i t
  | 0, _ => ⟨rfl, fun t => rfl⟩
  | i + 1, hi => by
    obtain ⟨h1, h2⟩ := T.env i (by omega)
    obtain ⟨o, ho, _, he⟩ := T.step i (by omega)
    rw [he]
    refine ⟨by rw [putE_length, h1], fun t => ?_⟩
    simp only [valT, true_and]
    have hd : dstOf ops i = o.dst := by simp [dstOf, ho]
    rw [hd]
    cases hdst : o.dst with
    | none => simp [putE, h2 t]
    | some d =>
      simp only [putE, Option.some.injEq]
      rw [List.getElem?_set]
      by_cases e1 : d = t
      · subst e1
        by_cases e2 : d < (e i).length
        · rw [if_pos rfl, if_pos e2, if_pos ⟨rfl, h1 ▸ e2⟩]
        · rw [if_pos rfl, if_neg e2, if_neg (fun q => e2 (h1 ▸ q.2)), ← h2 d, List.getElem?_eq_none (Nat.le_of_not_lt e2)]
      · rw [if_neg e1, if_neg (by simp [e1]), h2 t]
end
end
end Go.Ab
/-! The abstract interpreter is sound, 15: a region whose order is open. Conditions: none. -/
set_option linter.unusedSimpArgs false
set_option linter.unusedVariables false
namespace Go.Ab
open Go Go.RowKit
section
variable {P : Program} {w0 : World} {base lo : Nat} {ι ι1 ι2 : Inj} {H H1 H2 : Heap} {w w1 w2 : World} {ex : ExF}
variable {ops : Array Oper} {bef : Array Nat} {m : Nat} {e : Nat → List AV} {h : Nat → Heap} {kp : Nat → List (Nat × Nat × Nat)} {val : Nat → AV}

/-- block b is there when the operations that D lists have been carried out -/
def Live (h : Nat → Heap) (m : Nat) (D : Nat → Bool) (b : Nat) (x : Blk) : Prop :=
  (b < (h 0).next ∧ (h 0).get b = some x) ∨ ∃ i, i < m ∧ D i = true ∧ (h i).next ≤ b ∧ b < (h (i + 1)).next ∧ (h m).get b = some x

structure Inv (P : Program) (w0 : World) (base : Nat) (ι0 : Inj) (w00 : World) (marks : List Nat) (ops : Array Oper) (bef : Array Nat) (m : Nat) (e : Nat → List AV) (h : Nat → Heap) (val : Nat → AV) (kp : Nat → List (Nat × Nat × Nat)) (D : Nat → Bool) (ι : Inj) (w : World) (a : Act) : Prop where
  dm : ∀ i, D i = true → i < m
  dc : ∀ i, D i = true → ∀ j, (bef.getD i 0).testBit j = true → D j = true
  tsz : a.tmps.size = (e 0).length
  tm : ∀ t, a.tmps[t]? = (valT ops (e 0) val D m t).map (AV.conc ι)
  vok : ∀ i, D i = true → (val i).OK w0 base (h (i + 1)).next
  vis : ∀ i, D i = true → (val i).all (visA (bef.getD i 0) (kp i)) = true
  dfs : a.defers = marks.map (markOf ι)
  ext : ∀ b, b < (h 0).next → ι b = ι0 b
  below : Below base w0 w
  inj : ∀ b b' x x', Live h m D b x → Live h m D b' x' → (ι b).1 = (ι b').1 → b = b'
  lo : ∀ b x, Live h m D b x → base ≤ (ι b).1
  rel : ∀ b x, Live h m D b x → BlkRel P ι (ι b).2 w.heap[(ι b).1]? x
  bok : ∀ i b x, D i = true → (h i).next ≤ b → b < (h (i + 1)).next → (h m).get b = some x → BlkOK w0 base (h (i + 1)).next x ∧ x.all (visA (bef.getD i 0) (kp i)) = true
  size : w00.heap.size ≤ w.heap.size
  frame : ∀ r, r < w00.heap.size → w.heap[r]? = w00.heap[r]?
  fresh : ∀ i b x, D i = true → (h i).next ≤ b → b < (h (i + 1)).next → (h m).get b = some x → w00.heap.size ≤ (ι b).1

theorem valT_le (D : Nat → Bool) (env0 : List AV) (t i : Nat) : ∀ k, i ≤ k → (∀ j, i ≤ j → j < k → D j = true → dstOf ops j ≠ some t) → valT ops env0 val D k t = valT ops env0 val D i t := by
  intro k hk
  induction hk with
  | refl => exact fun _ => rfl
  | step hk ih =>
    rename_i k
    intro hw
    rw [valT, if_neg (fun q => hw k hk (by omega) q.1 q.2.1), ih (fun j h1 h2 => hw j h1 (by omega))]
theorem valT_same (env0 : List AV) (t : Nat) (D D' : Nat → Bool) : ∀ k, (∀ j, j < k → dstOf ops j = some t → D j = D' j) → valT ops env0 val D k t = valT ops env0 val D' k t
  | 0, _ => rfl
  | k + 1, hw => by
    simp only [valT]
    rw [valT_same env0 t D D' k (fun j hj => hw j (by omega))]
    by_cases hd : dstOf ops k = some t
    · rw [hw k (by omega) hd]
    · simp [hd]
/-- what a temporary holds is of the start, or an operation's -/
theorem valT_cases (env0 : List AV) (D : Nat → Bool) (t : Nat) : ∀ (k : Nat) (v : AV), valT ops env0 val D k t = some v → (v ∈ env0) ∨ ∃ j, j < k ∧ D j = true ∧ v = val j
  | 0, v, hv => .inl (List.mem_of_getElem? hv)
  | k + 1, v, hv => by
    simp only [valT] at hv
    split at hv
    · rename_i hc; cases hv; exact .inr ⟨k, by omega, hc.1, rfl⟩
    · rcases valT_cases env0 D t k v hv with h | ⟨j, h1, h2⟩
      · exact .inl h
      · exact .inr ⟨j, by omega, h2⟩

theorem raceFree_spec (hr : raceFree ops bef = true) {i j : Nat} {x y : Oper} (hi : ops[i]? = some x) (hj : ops[j]? = some y) (hne : i ≠ j) (h1 : (bef.getD i 0).testBit j = false) (h2 : (bef.getD j 0).testBit i = false) :
    ∀ d, x.dst = some d → d ∉ needs ops y ∧ y.dst ≠ some d := by
  intro d hd
  have hi' : i < ops.size := (Array.getElem?_eq_some_iff.1 hi).1
  have hj' : j < ops.size := (Array.getElem?_eq_some_iff.1 hj).1
  have := List.all_eq_true.1 (List.all_eq_true.1 hr i (List.mem_range.2 hi')) j (List.mem_range.2 hj')
  simp only [hi, hj, h1, h2, hd, Bool.or_false, Bool.or_eq_true, beq_iff_eq, Bool.and_eq_true, Bool.not_eq_true', bne_iff_ne, ne_eq] at this
  rcases this with h | h
  · exact absurd h hne
  · refine ⟨fun hm => ?_, h.2⟩
    have := h.1
    simp [List.contains_iff_mem, hm] at this

/-- the ids that an operation j's value names, while operation i hasn't been carried out: none of i's -/
theorem ids_apart [E : Env] (T : Trace P ex ops bef m e h kp val) {D : Nat → Bool} {i j : Nat} (hi : i < m) (hj : j < m) (hDi : D i = false) (hDj : D j = true) (hdc : ∀ q, (bef.getD j 0).testBit q = true → D q = true) {b : Nat}
    (h1 : b < (h (j + 1)).next) (h2 : visA (bef.getD j 0) (kp j) b = true) : ¬ ((h i).next ≤ b ∧ b < (h (i + 1)).next) := by
  rintro ⟨h3, h4⟩
  by_cases hij : i < j
  · obtain ⟨k1, k2⟩ := T.kept j (by omega)
    obtain ⟨q, hq, hqi⟩ := k2 i hij (by omega)
    obtain ⟨_, h5, h6⟩ := k1 q hq
    have := List.all_eq_true.1 h2 q hq
    rw [hqi] at h5 h6 this
    have hb : (bef.getD j 0).testBit i = false := by
      cases hx : (bef.getD j 0).testBit i with
      | false => rfl
      | true => rw [hdc i hx] at hDi; cases hDi
    rw [hb] at this
    simp at this
    omega
  · by_cases hji : j = i
    · subst hji; rw [hDj] at hDi; cases hDi
    · have := (T.mono (j + 1) i (by omega) (by omega)).1
      omega
end
end Go.Ab
