/- What the law's proof leans on, part 1. Conditions: in each statement. -/
import Derived.Below
import Derived.Calls
set_option linter.all false
namespace Go.Ab
open Go
inductive AV where
 | bool (b : Bool)
 | int (k : IntKind) (n : Int)
 | str (s : ByteArray)
 | nilp
 | ptr (b o : Nat)
 | rptr (a : Addr) (cs : List AV)
 | sl (b i n sz : Nat)
 | asl (b o n cap sz : Nat)
 | rsl (a : Option Addr) (cap sz : Nat) (l : List AV)
 | map (b : Option Nat)
 | func (f : FuncId) (first cap : List AV)
 | yieldf (b : Nat)
 | nilf
 | iface (t : TypeId) (v : AV)
 | nili
 | agg (cs : List AV)
 | tup (vs : List AV)
 deriving Inhabited
def AV.cells : AV → List AV
 | .agg cs => cs
 | v => [v]
abbrev Inj := Nat → Nat × Nat
mutual
def AV.conc (ι : Inj) : AV → Value
 | .bool b => .bool b
 | .int k n => .int k n
 | .str s => .string s
 | .nilp => .pointer none
 | .ptr b o => .pointer (some ⟨(ι b).1, o, none⟩)
 | .rptr a _ => .pointer (some a)
 | .sl b i n sz => .slice (some ⟨(ι b).1, i * sz, none⟩) n ((ι b).2 - i)
 | .asl b o n cap _ => .slice (some ⟨(ι b).1, o, none⟩) n cap
 | .rsl a cap _ l => .slice a l.length cap
 | .map none => .map none
 | .map (some b) => .map (some (ι b).1)
 | .func f first cap => .func (.func f) (AV.concL ι first).toArray (AV.concL ι cap).toArray
 | .yieldf b => .func (.yield (ι b).1) #[] #[]
 | .nilf => .nilFunc
 | .iface t v => .iface t (v.conc ι)
 | .nili => .nilIface
 | .agg cs => .agg (AV.concL ι cs).toArray
 | .tup vs => .tuple (AV.concL ι vs).toArray
def AV.concL (ι : Inj) : List AV → List Value
 | [] => []
 | v :: vs => v.conc ι :: AV.concL ι vs
end
mutual
def AV.rf : AV → Bool
 | .ptr .. | .sl .. | .asl .. | .map (some _) | .yieldf _ => false
 | .func _ first cap => AV.rfL first && AV.rfL cap
 | .iface _ v => v.rf
 | .agg cs => AV.rfL cs
 | .tup vs => AV.rfL vs
 | _ => true
def AV.rfL : List AV → Bool
 | [] => true
 | v :: vs => v.rf && AV.rfL vs
end
mutual
def AV.OK (w0 : World) (base n : Nat) : AV → Prop
 | .ptr b _ => b < n
 | .sl b _ _ _ => b < n
 | .asl b _ _ _ _ => b < n
 | .map (some b) => b < n
 | .yieldf b => b < n
 | .rptr a cs => a.block < base ∧ (∀ ι j c, cs[j]? = some c → w0.cell? (a.add j) = some (c.conc ι)) ∧ AV.OKL w0 base 0 cs
 | .rsl none cap _ l => l = [] ∧ cap = 0
 | .rsl (some a) cap sz l => l.length ≤ cap ∧ (∀ ι i e, l[i]? = some e → a.block < base ∧ e.cells.length = sz ∧ ∀ j c, e.cells[j]? = some c → w0.cell? ((a.add (i * sz)).add j) = some (c.conc ι)) ∧ AV.OKL w0 base 0 l
 | .func _ first cap => AV.OKL w0 base n first ∧ AV.OKL w0 base n cap
 | .iface _ v => v.OK w0 base n
 | .agg cs => AV.OKL w0 base n cs
 | .tup vs => AV.OKL w0 base n vs
 | _ => True
def AV.OKL (w0 : World) (base n : Nat) : List AV → Prop
 | [] => True
 | v :: vs => v.OK w0 base n ∧ AV.OKL w0 base n vs
end
def undefA : AV := .tup []
mutual
def AV.all (p : Nat → Bool) : AV → Bool
 | .ptr b _ => p b
 | .sl b _ _ _ => p b
 | .asl b _ _ _ _ => p b
 | .map (some b) => p b
 | .yieldf b => p b
 | .func _ first cap => AV.allL p first && AV.allL p cap
 | .iface _ v => v.all p
 | .agg cs => AV.allL p cs
 | .tup vs => AV.allL p vs
 | _ => true
def AV.allL (p : Nat → Bool) : List AV → Bool
 | [] => true
 | v :: vs => v.all p && AV.allL p vs
end
def zls : Value → Option AV
 | .bool b => some (.bool b)
 | .int k n => some (.int k n)
 | .string s => some (.str s)
 | .pointer none => some .nilp
 | .slice none 0 0 => some (.rsl none 0 0 [])
 | .map none => some (.map none)
 | .nilFunc => some .nilf
 | .nilIface => some .nili
 | _ => none
def zk3 : List Value → Option (List AV)
 | [] => some []
 | v :: vs => match zls v, zk3 vs with | some a, some l => some (a :: l) | _, _ => none
def ztz : Value → Option AV
 | .agg cs => (zk3 cs.toList).map .agg
 | v => zls v
mutual
def AV.refs : AV → List Nat
 | .ptr b _ => [b]
 | .sl b _ _ _ => [b]
 | .asl b _ _ _ _ => [b]
 | .map (some b) => [b]
 | .yieldf b => [b]
 | .func _ first cap => AV.refsL first ++ AV.refsL cap
 | .iface _ v => v.refs
 | .agg cs => AV.refsL cs
 | .tup vs => AV.refsL vs
 | _ => []
def AV.refsL : List AV → List Nat
 | [] => []
 | v :: vs => v.refs ++ AV.refsL vs
end
mutual
def AV.ren (ρ : Nat → Nat) : AV → AV
 | .ptr b o => .ptr (ρ b) o
 | .sl b i n sz => .sl (ρ b) i n sz
 | .asl b o n cap sz => .asl (ρ b) o n cap sz
 | .map (some b) => .map (some (ρ b))
 | .yieldf b => .yieldf (ρ b)
 | .func f first cap => .func f (AV.renL ρ first) (AV.renL ρ cap)
 | .iface t v => .iface t (v.ren ρ)
 | .agg cs => .agg (AV.renL ρ cs)
 | .tup vs => .tup (AV.renL ρ vs)
 | v => v
def AV.renL (ρ : Nat → Nat) : List AV → List AV
 | [] => []
 | v :: vs => v.ren ρ :: AV.renL ρ vs
end
structure EV where
 n : Nat
 s : List (Nat × AV)
 deriving Inhabited
def zbb : List (Nat × AV) → Nat → Option AV
 | [], _ => none
 | (k, v) :: s, t => if t = k then some v else zbb s t
def zo2 (t : Nat) (v : AV) : List (Nat × AV) → List (Nat × AV)
 | [] => [(t, v)]
 | (k, x) :: s => if t = k then (t, v) :: s else if t < k then (t, v) :: (k, x) :: s else (k, x) :: zo2 t v s
def repL (t : Nat) (v : AV) : List (Nat × AV) → List (Nat × AV)
 | [] => []
 | (k, x) :: s => if t = k then (k, v) :: s else (k, x) :: repL t v s
def zo4 (ks : List Nat) : List (Nat × AV) → List (Nat × AV)
 | [] => []
 | (k, v) :: s => if ks.contains k then (k, v) :: zo4 ks s else zo4 ks s
def vals : List (Nat × AV) → List AV
 | [] => []
 | (_, v) :: s => v :: vals s
def zyq (ρ : Nat → Nat) : List (Nat × AV) → List (Nat × AV)
 | [] => []
 | (k, v) :: s => (k, v.ren ρ) :: zyq ρ s
def EV.look (e : EV) (t : Nat) : Option AV := zbb e.s t
def EV.set (e : EV) (t : Nat) (v : AV) : EV := if t < e.n then ⟨e.n, zo2 t v e.s⟩ else e
def EV.rep (e : EV) (t : Nat) (v : AV) : EV := ⟨e.n, repL t v e.s⟩
def EV.lim (e : EV) (ks : List Nat) : EV := ⟨e.n, zo4 ks e.s⟩
def EV.ren (e : EV) (ρ : Nat → Nat) : EV := ⟨e.n, zyq ρ e.s⟩
def zr7 : Nat → List AV → List (Nat × AV)
 | _, [] => []
 | i, v :: l => (i, v) :: zr7 (i + 1) l
inductive Blk where
 | cells (t : TypeId) (c : List AV)
 | map (es : List (AV × AV × Nat)) (clock : Nat)
 | iter (s : ByteArray) (p : Nat)
 | loop (st : LoopState) (pend : Option Code) (fn : FuncId) (tmps : EV) (params : List Tmp) (assign body : Code) (dfr : Nat)
 | dfr
 deriving Inhabited
def Blk.all (p : Nat → Bool) : Blk → Bool
 | .cells _ c => AV.allL p c
 | .map es _ => es.all fun e => e.1.all p && e.2.1.all p
 | .loop _ _ _ tmps _ _ _ d => AV.allL p (vals tmps.s) && p d
 | _ => true
def Blk.refs : Blk → List Nat
 | .cells _ c => AV.refsL c
 | .map es _ => es.flatMap fun e => e.1.refs ++ e.2.1.refs
 | .loop _ _ _ tmps _ _ _ d => AV.refsL (vals tmps.s) ++ [d]
 | _ => []
def Blk.ren (ρ : Nat → Nat) : Blk → Blk
 | .cells t c => .cells t (AV.renL ρ c)
 | .map es k => .map (es.map fun e => (e.1.ren ρ, e.2.1.ren ρ, e.2.2)) k
 | .loop st pend fn tmps ps a b d => .loop st pend fn (tmps.ren ρ) ps a b (ρ d)
 | x => x
def zl2 : List (Option Blk) → Nat → Option Blk
 | [], _ => none
 | x :: _, 0 => x
 | _ :: l, n + 1 => zl2 l n
def zmq : List (Option Blk) → Nat → Option Blk → List (Option Blk)
 | [], 0, x => [x]
 | [], n + 1, x => none :: zmq [] n x
 | _ :: l, 0, x => x :: l
 | y :: l, n + 1, x => y :: zmq l n x
structure Heap where
 next : Nat
 l : List (Option Blk)
def Heap.get (H : Heap) (b : Nat) : Option Blk := zl2 H.l b
def Heap.setO (H : Heap) (b : Nat) (x : Option Blk) : Heap := ⟨H.next, zmq H.l b x⟩
def Heap.set (H : Heap) (b : Nat) (x : Blk) : Heap := H.setO b (some x)
def Heap.push (H : Heap) (x : Blk) : Heap := ⟨H.next + 1, zmq H.l H.next (some x)⟩
def Heap.kill (H : Heap) (b : Nat) : Heap := H.setO b none
def Heap.empty : Heap := ⟨0, []⟩
theorem zf8 (j : Nat) : zl2 [] j = none := by cases j <;> rfl
theorem zg6 : ∀ (l : List (Option Blk)) (i j : Nat) (x : Option Blk), zl2 (zmq l i x) j = if j = i then x else zl2 l j
 | [], 0, 0, x => rfl
 | [], 0, j + 1, x => by simp [zmq, zl2, zf8]
 | [], i + 1, 0, x => by simp [zmq, zl2]
 | [], i + 1, j + 1, x => by simp only [zmq, zl2, zg6 [] i j x, zf8, Nat.add_right_cancel_iff]
 | y :: l, 0, 0, x => rfl
 | y :: l, 0, j + 1, x => by simp [zmq, zl2]
 | y :: l, i + 1, 0, x => by simp [zmq, zl2]
 | y :: l, i + 1, j + 1, x => by simp only [zmq, zl2, zg6 l i j x, Nat.add_right_cancel_iff]
theorem Heap.get_setO (H : Heap) (i j : Nat) (x : Option Blk) : (H.setO i x).get j = if j = i then x else H.get j := zg6 ..
theorem Heap.get_set (H : Heap) (i j : Nat) (x : Blk) : (H.set i x).get j = if j = i then some x else H.get j := Heap.get_setO ..
theorem Heap.get_kill (H : Heap) (i j : Nat) : (H.kill i).get j = if j = i then none else H.get j := Heap.get_setO ..
theorem Heap.get_push (H : Heap) (j : Nat) (x : Blk) : (H.push x).get j = if j = H.next then some x else H.get j := zg6 ..
@[simp] theorem Heap.next_setO (H : Heap) (i : Nat) (x : Option Blk) : (H.setO i x).next = H.next := rfl
@[simp] theorem Heap.next_set (H : Heap) (i : Nat) (x : Blk) : (H.set i x).next = H.next := rfl
@[simp] theorem Heap.next_kill (H : Heap) (i : Nat) : (H.kill i).next = H.next := rfl
@[simp] theorem Heap.next_push (H : Heap) (x : Blk) : (H.push x).next = H.next + 1 := rfl
theorem Heap.get_empty (j : Nat) : Heap.empty.get j = none := zf8 j
def zma : Option Blk → List Nat
 | some x => x.refs
 | none => []
def zdu (H : Heap) : Nat → List Nat → List Nat → Option (List Nat)
 | _, [], acc => some acc
 | 0, _ :: _, _ => none
 | f + 1, b :: todo, acc => if acc.contains b then zdu H f todo acc else zdu H f (todo ++ zma (H.get b)) (acc ++ [b])
def zgo : List Nat → Nat → Nat
 | [], _ => 0
 | a :: l, b => if b = a then 0 else zgo l b + 1
def pick (H : Heap) (ρ : Nat → Nat) : List Nat → List (Option Blk)
 | [] => []
 | b :: l => (H.get b).map (Blk.ren ρ) :: pick H ρ l
def Heap.part (H : Heap) (ord : List Nat) : Heap := ⟨ord.length, pick H (zgo ord) ord⟩
end Go.Ab
