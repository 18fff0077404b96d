/- The abstract interpreter: values, heap, operations, code. No condition: definitions. -/
import Derived.Below
import Derived.Calls
namespace Go.Ab
open Go

/-- Abstract values. Own memory: ptr (block, cell), sl (block, first element, length, cells an element), map. Read-only memory: rptr, rsl bear what lies there. -/
inductive AV where
  | bool (b : Bool)
  | int (k : IntKind) (n : Int)
  | str (s : ByteArray)
  | nilp
  | ptr (b o : Nat)
  | rptr (a : Addr) (cs : List AV)
  | sl (b i n sz : Nat)
  | rsl (a : Option Addr) (cap sz : Nat) (l : List AV)
  | map (b : Option Nat)
  | func (f : FuncId) (first cap : List AV)
  | yieldf (b : Nat)
  | nilf
  | iface (t : TypeId) (v : AV)
  | nili
  | agg (cs : List AV)
  | tup (vs : List AV)
  deriving Inhabited

def AV.cells : AV → List AV
  | .agg cs => cs
  | v => [v]

abbrev Inj := Nat → Nat × Nat

mutual
def AV.conc (ι : Inj) : AV → Value
  | .bool b => .bool b
  | .int k n => .int k n
  | .str s => .string s
  | .nilp => .pointer none
  | .ptr b o => .pointer (some ⟨(ι b).1, o, none⟩)
  | .rptr a _ => .pointer (some a)
  | .sl b i n sz => .slice (some ⟨(ι b).1, i * sz, none⟩) n ((ι b).2 - i)
  | .rsl a cap _ l => .slice a l.length cap
  | .map none => .map none
  | .map (some b) => .map (some (ι b).1)
  | .func f first cap => .func (.func f) (AV.concL ι first).toArray (AV.concL ι cap).toArray
  | .yieldf b => .func (.yield (ι b).1) #[] #[]
  | .nilf => .nilFunc
  | .iface t v => .iface t (v.conc ι)
  | .nili => .nilIface
  | .agg cs => .agg (AV.concL ι cs).toArray
  | .tup vs => .tuple (AV.concL ι vs).toArray
def AV.concL (ι : Inj) : List AV → List Value
  | [] => []
  | v :: vs => v.conc ι :: AV.concL ι vs
end

mutual
/-- no reference to own memory in it -/
def AV.rf : AV → Bool
  | .ptr .. | .sl .. | .map (some _) | .yieldf _ => false
  | .func _ first cap => AV.rfL first && AV.rfL cap
  | .iface _ v => v.rf
  | .agg cs => AV.rfL cs
  | .tup vs => AV.rfL vs
  | _ => true
def AV.rfL : List AV → Bool
  | [] => true
  | v :: vs => v.rf && AV.rfL vs
end

mutual
/-- what is read-only is so in w0, below base; own blocks are below n -/
def AV.OK (w0 : World) (base n : Nat) : AV → Prop
  | .ptr b _ => b < n
  | .sl b _ _ _ => b < n
  | .map (some b) => b < n
  | .yieldf b => b < n
  | .rptr a cs => a.block < base ∧ (∀ ι j c, cs[j]? = some c → w0.cell? (a.add j) = some (c.conc ι)) ∧ AV.OKL w0 base 0 cs
  | .rsl none cap _ l => l = [] ∧ cap = 0
  | .rsl (some a) cap sz l => l.length ≤ cap ∧ (∀ ι i e, l[i]? = some e → a.block < base ∧ e.cells.length = sz ∧ ∀ j c, e.cells[j]? = some c → w0.cell? ((a.add (i * sz)).add j) = some (c.conc ι)) ∧ AV.OKL w0 base 0 l
  | .func _ first cap => AV.OKL w0 base n first ∧ AV.OKL w0 base n cap
  | .iface _ v => v.OK w0 base n
  | .agg cs => AV.OKL w0 base n cs
  | .tup vs => AV.OKL w0 base n vs
  | _ => True
def AV.OKL (w0 : World) (base n : Nat) : List AV → Prop
  | [] => True
  | v :: vs => v.OK w0 base n ∧ AV.OKL w0 base n vs
end

def undefA : AV := .tup []

mutual
/-- each own block that the value names is such -/
def AV.all (p : Nat → Bool) : AV → Bool
  | .ptr b _ => p b
  | .sl b _ _ _ => p b
  | .map (some b) => p b
  | .yieldf b => p b
  | .func _ first cap => AV.allL p first && AV.allL p cap
  | .iface _ v => v.all p
  | .agg cs => AV.allL p cs
  | .tup vs => AV.allL p vs
  | _ => true
def AV.allL (p : Nat → Bool) : List AV → Bool
  | [] => true
  | v :: vs => v.all p && AV.allL p vs
end

/-- a literal's abstract value -/
def ofLeaf : Value → Option AV
  | .bool b => some (.bool b)
  | .int k n => some (.int k n)
  | .string s => some (.str s)
  | .pointer none => some .nilp
  | .slice none 0 0 => some (.rsl none 0 0 [])
  | .map none => some (.map none)
  | .nilFunc => some .nilf
  | .nilIface => some .nili
  | _ => none
def ofLeafs : List Value → Option (List AV)
  | [] => some []
  | v :: vs => match ofLeaf v, ofLeafs vs with | some a, some l => some (a :: l) | _, _ => none
def ofVal : Value → Option AV
  | .agg cs => (ofLeafs cs.toList).map .agg
  | v => ofLeaf v

/-! ### the heap -/
inductive Blk where
  | cells (t : TypeId) (c : List AV)
  | map (es : List (AV × AV × Nat)) (clock : Nat)
  | iter (s : ByteArray) (p : Nat)
  | loop (st : LoopState) (pend : Option Code) (fn : FuncId) (tmps : List AV) (params : List Tmp) (assign body : Code) (dfr : Nat)
  | dfr
  deriving Inhabited

def Blk.all (p : Nat → Bool) : Blk → Bool
  | .cells _ c => AV.allL p c
  | .map es _ => es.all fun e => e.1.all p && e.2.1.all p
  | .loop _ _ _ tmps _ _ _ d => AV.allL p tmps && p d
  | _ => true

inductive T where
  | leaf
  | node (v : Option Blk) (l r : T)

def T.getF : Nat → T → Nat → Option Blk
  | 0, _, _ => none
  | _ + 1, .leaf, _ => none
  | f + 1, .node v l r, i => if i = 0 then v else if i % 2 = 1 then T.getF f l (i / 2) else T.getF f r (i / 2 - 1)
def T.val : T → Option Blk | .leaf => none | .node v _ _ => v
def T.lft : T → T | .leaf => .leaf | .node _ l _ => l
def T.rgt : T → T | .leaf => .leaf | .node _ _ r => r
def T.setF : Nat → T → Nat → Option Blk → T
  | 0, t, _, _ => t
  | f + 1, t, i, x =>
    if i = 0 then .node x t.lft t.rgt else if i % 2 = 1 then .node t.val (T.setF f t.lft (i / 2) x) t.rgt else .node t.val t.lft (T.setF f t.rgt (i / 2 - 1) x)

structure Heap where
  next : Nat
  t : T
def Heap.get (H : Heap) (b : Nat) : Option Blk := T.getF (b + 1) H.t b
def Heap.setO (H : Heap) (b : Nat) (x : Option Blk) : Heap := ⟨H.next, T.setF (b + 1) H.t b x⟩
def Heap.set (H : Heap) (b : Nat) (x : Blk) : Heap := H.setO b (some x)
def Heap.push (H : Heap) (x : Blk) : Heap := ⟨H.next + 1, (H.set H.next x).t⟩
def Heap.kill (H : Heap) (b : Nat) : Heap := H.setO b none
def Heap.empty : Heap := ⟨0, .leaf⟩

theorem T.getF_fuel : ∀ (f f' : Nat) (t : T) (i : Nat), i < f → i < f' → T.getF f t i = T.getF f' t i
  | 0, _, _, _, h, _ => absurd h (by omega)
  | _ + 1, 0, _, _, _, h => absurd h (by omega)
  | f + 1, f' + 1, .leaf, i, _, _ => rfl
  | f + 1, f' + 1, .node v l r, i, h, h' => by
    simp only [T.getF]
    by_cases h0 : i = 0
    · simp [h0]
    · simp only [h0, if_false]
      by_cases h1 : i % 2 = 1
      · simp only [h1, if_true]; exact T.getF_fuel f f' l _ (by omega) (by omega)
      · simp only [h1, if_false]; exact T.getF_fuel f f' r _ (by omega) (by omega)
theorem T.getF_step (f : Nat) (t : T) (i : Nat) : T.getF (f + 1) t i = if i = 0 then t.val else if i % 2 = 1 then T.getF f t.lft (i / 2) else T.getF f t.rgt (i / 2 - 1) := by
  cases t with
  | leaf =>
    have h : ∀ f j, T.getF f .leaf j = none := fun f j => by cases f <;> rfl
    simp [T.getF, T.val, T.lft, T.rgt, h]
  | node v l r => rfl
theorem T.get_set : ∀ (f g : Nat) (t : T) (i j : Nat) (x : Option Blk), i < f → j < g → T.getF g (T.setF f t i x) j = if j = i then x else T.getF g t j
  | 0, _, _, _, _, _, h, _ => absurd h (by omega)
  | _ + 1, 0, _, _, _, _, _, h => absurd h (by omega)
  | f + 1, g + 1, t, i, j, x, hi, hj => by
    rw [T.getF_step, T.getF_step]
    by_cases i0 : i = 0
    · subst i0
      simp only [T.setF, if_true, T.val, T.lft, T.rgt]
      by_cases j0 : j = 0 <;> simp [j0]
    · by_cases i1 : i % 2 = 1
      · simp only [T.setF, i0, i1, if_true, if_false, T.val, T.lft, T.rgt]
        by_cases j0 : j = 0
        · have : ¬ j = i := by omega
          subst j0; simp [Ne.symm i0]
        · by_cases j1 : j % 2 = 1
          · simp only [j0, j1, if_true, if_false]
            rw [T.get_set f g _ _ _ _ (by omega) (by omega)]
            by_cases e : j = i
            · subst e; simp
            · have : ¬ j / 2 = i / 2 := by omega
              simp [e, this]
          · have : ¬ j = i := by omega
            simp [j0, j1, this]
      · simp only [T.setF, i0, i1, if_false, T.val, T.lft, T.rgt]
        by_cases j0 : j = 0
        · subst j0; simp [Ne.symm i0]
        · by_cases j1 : j % 2 = 1
          · have : ¬ j = i := by omega
            simp [j0, j1, this]
          · simp only [j0, j1, if_false]
            rw [T.get_set f g _ _ _ _ (by omega) (by omega)]
            by_cases e : j = i
            · subst e; simp
            · have : ¬ j / 2 - 1 = i / 2 - 1 := by omega
              simp [e, this]

theorem Heap.get_setO (H : Heap) (i j : Nat) (x : Option Blk) : (H.setO i x).get j = if j = i then x else H.get j := by
  unfold Heap.get Heap.setO; exact T.get_set _ _ _ _ _ _ (by omega) (by omega)
theorem Heap.get_set (H : Heap) (i j : Nat) (x : Blk) : (H.set i x).get j = if j = i then some x else H.get j := Heap.get_setO ..
theorem Heap.get_kill (H : Heap) (i j : Nat) : (H.kill i).get j = if j = i then none else H.get j := Heap.get_setO ..
theorem Heap.get_push (H : Heap) (j : Nat) (x : Blk) : (H.push x).get j = if j = H.next then some x else H.get j := Heap.get_setO ..
@[simp] theorem Heap.next_setO (H : Heap) (i : Nat) (x : Option Blk) : (H.setO i x).next = H.next := rfl
@[simp] theorem Heap.next_set (H : Heap) (i : Nat) (x : Blk) : (H.set i x).next = H.next := rfl
@[simp] theorem Heap.next_kill (H : Heap) (i : Nat) : (H.kill i).next = H.next := rfl
@[simp] theorem Heap.next_push (H : Heap) (x : Blk) : (H.push x).next = H.next + 1 := rfl
theorem Heap.get_empty (j : Nat) : Heap.empty.get j = none := rfl
end Go.Ab
