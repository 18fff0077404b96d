/- What the law's proof leans on, part 8. Conditions: in each statement. -/
import Derived.Test.YtibehelnfbcnjaaGreatDoorQVC
set_option linter.all false
set_option linter.unusedSimpArgs false
set_option linter.unusedVariables false
set_option linter.unusedSectionVars false
namespace Go.Ab
open Go
def cG (ops : Array Oper) (g : Option (Nat × Bool)) : Option (Option Nat × Bool) := match g with | some (j, b) => some ((ops[j]?).bind (·.dst), b) | none => none
def gOk (e : EV) : Option (Option Nat × Bool) → Option Bool
 | none => some true
 | some (t, b) => match t.bind e.look with | some (.bool x) => some (x == b) | some _ => some false | none => none
theorem yaf9 {ops : Array Oper} {e : EV} {o : Oper} : zle ops e o = gOk e (cG ops o.guard) := by
 unfold zle cG
 cases o.guard with
 | none => rfl
 | some p => obtain ⟨j, b⟩ := p; rfl
section
variable [E : Env]
abbrev Ry := Option (EV × Heap)
def cO (P : Program) (ops : Array Oper) (o : Oper) : O := ⟨o.dst, cG ops o.guard, cK P o.op⟩
noncomputable def R2 (P : Program) : List O → EV → Heap → Ry
 | [], e, H => some (e, H)
 | o :: rest, e, H => match gOk e o.g with
  | some true => match kA P (om P) e H o.k with
   | some (v, H') => R2 P rest (zcw e o.d v) H'
   | none => none
  | some false => R2 P rest (zcw e o.d undefA) H
  | none => none
noncomputable def S2 (P : Program) : List O → EV → Heap → Ry
 | [], e, H => some (e, H)
 | o :: rest, e, H => match gOk e o.g with
  | some true => match kA P (om P) e H o.k with
   | some (v, H') => if @decide (H' = H) (Classical.propDecidable _) then S2 P rest (zcw e o.d v) H else none
   | none => none
  | some false => S2 P rest (zcw e o.d undefA) H
  | none => none
theorem zoc {P : Program} {ops : Array Oper} : ∀ (l : List Oper) (e : EV) (H : Heap), ze6 P (om P) ops l e H = R2 P (l.map (cO P ops)) e H
 | [], e, H => rfl
 | o :: rest, e, H => by
  simp only [ze6, List.map_cons, R2, yaf9, yauk]
  simp only [zoc rest]
  rfl
@[congr] theorem yapc {α β : Type} {x y : Option α} {f : α → Option β} (h : x = y) : x.bind f = y.bind f := by rw [h]
def opr (r : Option (AV × Heap)) (k : AV → Heap → Ry) : Ry := match r with | some (v, H) => k v H | none => none
@[congr] theorem yaus {r r' : Option (AV × Heap)} {k : AV → Heap → Ry} (h : r = r') : opr r k = opr r' k := by rw [h]
theorem opr_some {v : AV} {H : Heap} {k : AV → Heap → Ry} : opr (some (v, H)) k = k v H := id rfl
theorem yalt {t : Nat} {v : AV} : ∀ {s : List (Nat × AV)}, zbb s t = some v → repL t v s = s
 | [], h => rfl
 | (k, x) :: s, h => by
  simp only [zbb] at h
  simp only [repL]
  split at h
  ·rename_i e; cases h; rw [if_pos e]
  ·rename_i e; rw [if_neg e, yalt h]
theorem znc {t : Nat} {v : AV} {e : EV} (h : e.look t = some v) : e.rep t v = e := by
 cases e; simp only [EV.rep, yalt h]
def gu (y : Option AV) (b : Bool) (x z w : Unit → Ry) : Ry := match y with | some (.bool c) => bif c == b then x () else z () | some _ => w () | none => none
@[congr] theorem yaw6 {y y' : Option AV} {b : Bool} {x z w : Unit → Ry} (h : y = y') : gu y b x z w = gu y' b x z w := by rw [h]
theorem gu_bt {c : Bool} {x z w : Unit → Ry} : gu (some (.bool c)) true x z w = bif c then x () else z () := by cases c <;> rfl
theorem gu_bf {c : Bool} {x z w : Unit → Ry} : gu (some (.bool c)) false x z w = bif c then z () else x () := by cases c <;> rfl
theorem gu_undef {b : Bool} {x z w : Unit → Ry} : gu (some (.tup [])) b x z w = w () := rfl
noncomputable def K2 (P : Program) (rest : List O) (e : EV) (d : Option Nat) (v : AV) (H : Heap) : Ry := R2 P rest (zcw e d v) H
noncomputable def K3 (P : Program) (rest : List O) (e : EV) (d : Option Nat) (H0 : Heap) (v : AV) (H : Heap) : Ry :=
 if @decide (H = H0) (Classical.propDecidable _) then S2 P rest (zcw e d v) H0 else none
noncomputable def U2 (P : Program) (k : K) (rest : List O) (e : EV) (d : Option Nat) (H : Heap) (_ : Unit) : Ry := opr (kA P (om P) e H k) (K2 P rest e d)
noncomputable def V2 (P : Program) (rest : List O) (e : EV) (d : Option Nat) (H : Heap) (_ : Unit) : Ry := R2 P rest (zcw e d undefA) H
noncomputable def U3 (P : Program) (k : K) (rest : List O) (e : EV) (d : Option Nat) (H : Heap) (_ : Unit) : Ry := opr (kA P (om P) e H k) (K3 P rest e d H)
noncomputable def V3 (P : Program) (rest : List O) (e : EV) (d : Option Nat) (H : Heap) (_ : Unit) : Ry := S2 P rest (zcw e d undefA) H
section
variable {P : Program} {rest : List O} {e : EV} {d : Option Nat} {b : Bool} {k : K} {v : AV} {H H0 : Heap} {t : Nat} {u : Unit}
theorem r2_nil : R2 P [] e H = some (e, H) := rfl
theorem r2_op : R2 P (⟨d, none, k⟩ :: rest) e H = opr (kA P (om P) e H k) (K2 P rest e d) := by
 simp only [R2, gOk]; rfl
theorem r2_gu : R2 P (⟨d, some (some t, b), k⟩ :: rest) e H = gu (e.look t) b (U2 P k rest (e.rep t (.bool b)) d H) (V2 P rest (e.rep t (.bool !b)) d H) (V2 P rest e d H) := by
 simp only [R2, gOk, gu, Option.bind]
 cases h : e.look t with
 | none => rfl
 | some v =>
  cases v <;> try rfl
  rename_i c
  cases c <;> cases b <;> simp only [Bool.not_true, Bool.not_false, znc h] <;> rfl
theorem k2 : K2 P rest e d v H = R2 P rest (zcw e d v) H := rfl
theorem u2 : U2 P k rest e d H u = opr (kA P (om P) e H k) (K2 P rest e d) := rfl
theorem v2 : V2 P rest e d H u = R2 P rest (zcw e d undefA) H := rfl
theorem s2_nil : S2 P [] e H = some (e, H) := rfl
theorem s2_op : S2 P (⟨d, none, k⟩ :: rest) e H = opr (kA P (om P) e H k) (K3 P rest e d H) := by
 simp only [S2, gOk]; rfl
theorem s2_gu : S2 P (⟨d, some (some t, b), k⟩ :: rest) e H = gu (e.look t) b (U3 P k rest (e.rep t (.bool b)) d H) (V3 P rest (e.rep t (.bool !b)) d H) (V3 P rest e d H) := by
 simp only [S2, gOk, gu, Option.bind]
 cases h : e.look t with
 | none => rfl
 | some v =>
  cases v <;> try rfl
  rename_i c
  cases c <;> cases b <;> simp only [Bool.not_true, Bool.not_false, znc h] <;> rfl
theorem k3 : K3 P rest e d H v H = S2 P rest (zcw e d v) H := by simp [K3]
theorem k3_ne {n m : Nat} {l l' : List (Option Blk)} (h : n ≠ m) : K3 P rest e d ⟨m, l'⟩ v ⟨n, l⟩ = none := by simp [K3, h]
theorem u3 : U3 P k rest e d H u = opr (kA P (om P) e H k) (K3 P rest e d H) := rfl
theorem v3 : V3 P rest e d H u = S2 P rest (zcw e d undefA) H := rfl
theorem same_some : same H (some v) = some (v, H) := rfl
theorem put_some : put (some H) = some (undefA, H) := rfl
end
def regC (id : Nat) : Code → Option Code
 | .seq a b => match regC id a with | some c => some c | none => regC id b
 | .cond _ a b => match regC id a with | some c => some c | none => regC id b
 | .block _ a => regC id a
 | .loop a => regC id a
 | .scope a => regC id a
 | .rangeFunc _ _ a b => match regC id a with | some c => some c | none => regC id b
 | .region i ops d => if i = id then some (.region i ops d) else none
 | _ => none
def za7 (f : Func) (id : Nat) : Code := (regC id (f.body.getD .skip)).getD .skip
def lps : Code → List (Code × Code)
 | .seq a b => lps a ++ lps b
 | .cond _ a b => lps a ++ lps b
 | .block _ a => lps a
 | .loop a => (.skip, a) :: lps a
 | .scope a => lps a
 | .rangeFunc _ _ a b => (a, b) :: (lps a ++ lps b)
 | _ => []
def bdy (f : Func) : Code := f.body.getD .skip
def lpb (f : Func) (k : Nat) : Code := (((lps (bdy f))[k]?).map (·.2)).getD .skip
def lpa (f : Func) (k : Nat) : Code := (((lps (bdy f))[k]?).map (·.1)).getD .skip
abbrev CE (P : Program) (c d : Code) : Prop := ∀ (cx : Ctx) (pin : Nat) (st : St), om P cx pin c st = om P cx pin d st
theorem ce {P : Program} {c d : Code} (h : c = d) : CE P c d := fun _ _ _ => by rw [h]
def yazn : Code → Array Oper
 | .region _ ops _ => ops
 | _ => #[]
def opOf (f : Func) (id j : Nat) : Op := (((yazn (za7 f id))[j]?).map (·.op)).getD (.ready 0)
def zna (ops : Array Oper) : Option Nat :=
 let bef := Region.before ops
 if ze5 ops bef && zi1 0 ops.toList && zzi ops bef then some (zc9 bef ops.size) else none
def zeo : Code → Nat
 | .region i _ _ => i
 | _ => 0
def res (P : Program) : Code → Option (List O)
 | .region _ ops false => some (ops.toList.map (cO P ops))
 | _ => none
theorem yae3 {P : Program} {cx : Ctx} {pin : Nat} {c : Code} {st : St} {l : List O} (ks pk : Option (List Nat)) (h : res P c = some l) (hk : E.live cx.fn (3 * zeo c) = ks) (hq : E.live cx.fn (3 * (zeo c + 1000000)) = pk) : om P cx pin c st = lim pk pin (reg ks st.marks (R2 P l st.env st.H)) := by
 unfold res at h
 split at h
 ·cases h; rw [oy_region, zoc, ← hk, ← hq]; rfl
 ·cases h
def stl (r : Ry) (k : EV → Heap → Ry) : Ry := match r with | some (env, H) => k env H | none => none
theorem stl_some {env : EV} {H : Heap} {k : EV → Heap → Ry} : stl (some (env, H)) k = k env H := id rfl
@[congr] theorem yavv {r r' : Ry} {k : EV → Heap → Ry} (h : r = r') : stl r k = stl r' k := by rw [h]
theorem stl_cond {c : Bool} {x y : Ry} {k : EV → Heap → Ry} : stl (bif c then x else y) k = bif c then stl x k else stl y k := by cases c <;> rfl
def dre (x : Ry) (y : Unit → Ry) : Ry := match x with | some r => some r | none => y ()
@[congr] theorem yas0 {x x' : Ry} {y : Unit → Ry} (h : x = x') : dre x y = dre x' y := by rw [h]
theorem dre_some {r : EV × Heap} {y : Unit → Ry} : dre (some r) y = some r := id rfl
theorem dre_none {y : Unit → Ry} : dre none y = y () := id rfl
theorem dre_cond {c : Bool} {r s : EV × Heap} {y : Unit → Ry} : dre (bif c then some r else some s) y = bif c then some r else some s := by cases c <;> rfl
noncomputable def K4 (P : Program) (l : List O) (e : EV) (H : Heap) : Ry := R2 P l e H
theorem k4 {P : Program} {l : List O} {e : EV} {H : Heap} : K4 P l e H = R2 P l e H := rfl
def zd3 : K → Bool
 | .mv _ | .pick .. | .new .. | .box .. | .nz _ | .bin .. | .un .. | .fa .. | .fld .. | .ixs .. | .six .. | .ext .. | .mkf .. | .bld .. | .bsl .. | .mks .. | .mkm _ => true
 | .raw op => zd2 op
 | _ => false
def zpt (W : Nat → List Nat) (us ns : List Nat) (n : Nat) (kept : List (Nat × Nat × Nat)) : List Nat :=
 (us.flatMap W ++ kept.flatMap fun q => if ns.contains q.1 then List.range' q.2.1 q.2.2 else []).filter fun b => decide (b < n)
def mkK : K → Bool
 | .new .. | .box .. | .call .. | .callv .. | .app .. | .mks .. | .mkm _ | .bsl .. | .raw _ => true
 | _ => false
noncomputable def L2 (P : Program) (W : Nat → List Nat) : Nat → List (O × List Nat × List Nat) → EV → Heap → List (Nat × Nat × Nat) → Ry
 | _, [], e, H, _ => some (e, H)
 | i, (o, us, bs) :: rest, e, H, kept => match gOk e o.g with
  | some true =>
   if zd3 o.k then
    match kA P (om P) e H o.k with
    | some (v, V) =>
     if @decide (LOk (zpt W us bs H.next kept) (zpt W [] bs H.next kept) (W i) H V v) (Classical.propDecidable _) then
      L2 P W (i + 1) rest (zcw e o.d v) V (if V.next = H.next then kept else (i, H.next, V.next - H.next) :: kept)
     else none
    | none => none
   else
    match kA P (om P) e (zbw H (zpt W us bs H.next kept)) o.k with
    | some (v, V) =>
     if @decide (LOk (zpt W us bs H.next kept) (zpt W [] bs H.next kept) (W i) H V v) (Classical.propDecidable _) then
      L2 P W (i + 1) rest (zcw e o.d v) (zu0 V H (zpt W us bs H.next kept))
       (if V.next = H.next then kept else (i, H.next, V.next - H.next) :: kept)
     else none
    | none => none
  | some false => L2 P W (i + 1) rest (zcw e o.d undefA) H kept
  | none => none
def mkO (P : Program) (ops : Array Oper) (i : Nat) : Bool := match ops[i]? with | some o => mkK (cK P o.op) | none => false
def zipU (P : Program) (ops : Array Oper) (bef : Array Nat) (m : Nat) (hs : List (Nat × Nat)) : Nat → List Oper → List (O × List Nat × List Nat)
 | _, [] => []
 | j, o :: l => (cO P ops o, (List.range m).filter (fun i => zuo bef i j && hs.any (·.1 == i)), (List.range j).filter (fun i => !(bef.getD j 0).testBit i && mkO P ops i)) :: zipU P ops bef m hs (j + 1) l
def resL (P : Program) (hs : List (Nat × Nat)) : Code → Option (List (O × List Nat × List Nat) × List O)
 | .region _ ops true => match zna ops with
  | some m => some (zipU P ops (Region.before ops) m hs 0 (ops.toList.take m), (ops.toList.drop m).map (cO P ops))
  | none => none
 | _ => none
def resD (P : Program) : Code → Option (List O × List O)
 | .region _ ops true => match zna ops with
  | some m => some ((ops.toList.take m).map (cO P ops), (ops.toList.drop m).map (cO P ops))
  | none => none
 | _ => none
noncomputable def Fo (P : Program) (cx : Ctx) (c : Code) (e : EV) (H : Heap) (_ : Unit) : Ry := match c with | .region i ops _ => runD P (om P) cx.fn i ops e H | _ => none
theorem znh {W : Nat → List Nat} {p : Nat → Bool} : ∀ l : List Nat, (l.flatMap fun i => if p i then W i else []) = (l.filter p).flatMap W
 | [] => rfl
 | a :: l => by
  simp only [List.flatMap_cons, List.filter_cons]
  cases h : p a <;> simp [znh l]
theorem zmf {p q : Nat → Bool} : ∀ l : List Nat, l.filter (fun i => p i && q i) = (l.filter p).filter q
 | [] => rfl
 | a :: l => by
  simp only [List.filter_cons]
  cases hp : p a
  ·simp only [Bool.false_and, Bool.false_eq_true, if_false]; exact zmf l
  ·cases hq : q a
   ·simp only [Bool.and_false, Bool.false_eq_true, if_false, if_true, List.filter_cons, hq]; exact zmf l
   ·simp only [Bool.and_true, if_true, List.filter_cons, hq]; rw [zmf l]
theorem zqz {W : Nat → List Nat} {q : Nat → Bool} (h : ∀ i, q i = false → W i = []) : ∀ l : List Nat, (l.filter q).flatMap W = l.flatMap W
 | [] => rfl
 | a :: l => by
  simp only [List.filter_cons, List.flatMap_cons]
  cases hq : q a with
  | true => simp only [if_true, List.flatMap_cons]; rw [zqz h l]
  | false => simp only [Bool.false_eq_true, if_false]; rw [zqz h l, h a hq, List.nil_append]
theorem yadb {hs : List (Nat × Nat)} {e : EV} {H : Heap} {i : Nat} (h : (hs.any (·.1 == i)) = false) : zds hs e H i = [] := by
 induction hs with
 | nil => rfl
 | cons p hs ih =>
  obtain ⟨a, t⟩ := p
  simp only [List.any_cons, Bool.or_eq_false_iff, beq_eq_false_iff_ne, ne_eq] at h
  simp only [zds, if_neg h.1, List.nil_append, ih h.2]
theorem yac6 {P : Program} {ops : Array Oper} {hs : List (Nat × Nat)} {e : EV} {H : Heap} {bef : Array Nat} {m j n : Nat} {kept : List (Nat × Nat × Nat)} (hk : ∀ q ∈ kept, q.1 < j ∧ mkO P ops q.1 = true) :
  zpt (zds hs e H) ((List.range m).filter (fun i => zuo bef i j && hs.any (·.1 == i))) ((List.range j).filter (fun i => !(bef.getD j 0).testBit i && mkO P ops i)) n kept = zjd (zds hs e H) bef m j n kept := by
 unfold zpt zjd
 rw [znh, zmf, zqz fun i hi => yadb hi]
 congr 2
 have fc : ∀ (l : List (Nat × Nat × Nat)) (f g : Nat × Nat × Nat → List Nat), (∀ q ∈ l, f q = g q) → l.flatMap f = l.flatMap g := by
  intro l f g h
  induction l with
  | nil => rfl
  | cons a l ih => rw [List.flatMap_cons, List.flatMap_cons, h a (by simp), ih (fun q hq => h q (by simp [hq]))]
 refine fc _ _ _ fun q hq => ?_
 obtain ⟨h1, h2⟩ := hk q hq
 have : ((List.range j).filter (fun i => !(bef.getD j 0).testBit i && mkO P ops i)).contains q.1 = !(bef.getD j 0).testBit q.1 := by
  rw [List.contains_eq_mem]
  cases hb : (bef.getD j 0).testBit q.1 with
  | false => exact decide_eq_true (List.mem_filter.2 ⟨List.mem_range.2 h1, by rw [hb, h2]; rfl⟩)
  | true => exact decide_eq_false fun h => by have := (List.mem_filter.1 h).2; rw [hb] at this; cases this
 rw [this]
 cases (bef.getD j 0).testBit q.1 <;> rfl
theorem yaot {W : Nat → List Nat} {P : Program} {ops : Array Oper} {bef : Array Nat} {m j n : Nat} {kept : List (Nat × Nat × Nat)} (hk : ∀ q ∈ kept, q.1 < j ∧ mkO P ops q.1 = true) :
  zpt W [] ((List.range j).filter (fun i => !(bef.getD j 0).testBit i && mkO P ops i)) n kept = zjd (fun _ => []) bef m j n kept := by
 have h := yac6 (P := P) (ops := ops) (hs := []) (e := ⟨0, []⟩) (H := Heap.empty) (bef := bef) (m := m) (j := j) (n := n) hk
 have e1 : zds [] ⟨0, []⟩ Heap.empty = fun _ => [] := rfl
 rw [e1] at h
 rw [← h]
 unfold zpt
 congr 2
 generalize (List.range m).filter (fun i => zuo bef i j && ([] : List (Nat × Nat)).any (·.1 == i)) = l
 induction l with
 | nil => rfl
 | cons a l ih => rw [List.flatMap_cons]; exact ih
theorem yap2 {H V : Heap} {n : Nat} {a v : AV} (h : stA 0 H n a v = some V) : V.next = H.next := by
 unfold stA at h
 split at h
 ·unfold zcn at h
  split at h
  ·split at h
   ·split at h
    ·cases h; rfl
    ·cases h
   ·cases h
  ·cases h
 ·cases h
theorem yao0 {kk : KK} {H V : Heap} {m k v : AV} (h : muK kk H m k v = some V) : V.next = H.next := by
 unfold muK at h
 split at h
 ·unfold muO at h
  split at h
  ·split at h
   ·unfold muR at h
    split at h <;> first | (cases h; rfl) | (cases h)
   ·cases h
  ·cases h
 ·cases h
theorem zb4 {α β : Type} {x : Option α} {f : α → Option β} {r : β} (h : x.bind f = some r) : ∃ a, x = some a ∧ f a = some r := by
 cases x with
 | none => cases h
 | some a => exact ⟨a, rfl, h⟩
theorem zbn {H V : Heap} {x : Option AV} {v : AV} (h : same H x = some (v, V)) : V = H := by
 cases x with
 | none => cases h
 | some y => simp only [same, Option.some.injEq, Prod.mk.injEq] at h; exact h.2.symm
theorem zyn {H V : Heap} {x : Option Heap} {v : AV} (h : put x = some (v, V)) : x = some V := by
 cases x with
 | none => cases h
 | some y => simp only [put, Option.some.injEq, Prod.mk.injEq] at h; rw [h.2]
theorem yaoy {P : Program} {ex : ExF} {e : EV} {H V : Heap} {k : K} {v : AV} (hk : mkK k = false) (h : kA P ex e H k = some (v, V)) : V.next = H.next := by
 cases k <;> simp only [mkK, Bool.true_eq_false] at hk <;> simp only [kA] at h
 case mv => rw [zbn h]
 case pick => obtain ⟨_, _, h⟩ := zb4 h; rw [zbn h]
 case ld => obtain ⟨_, _, h⟩ := zb4 h; rw [zbn h]
 case st => obtain ⟨_, _, h⟩ := zb4 h; obtain ⟨_, _, h⟩ := zb4 h; exact yap2 (zyn (H := H) h)
 case nz => obtain ⟨_, _, h⟩ := zb4 h; rw [zbn h]
 case bin => obtain ⟨_, _, h⟩ := zb4 h; obtain ⟨_, _, h⟩ := zb4 h; rw [zbn h]
 case un => obtain ⟨_, _, h⟩ := zb4 h; rw [zbn h]
 case fa => obtain ⟨_, _, h⟩ := zb4 h; rw [zbn h]
 case fld => obtain ⟨_, _, h⟩ := zb4 h; rw [zbn h]
 case ixs => obtain ⟨_, _, h⟩ := zb4 h; obtain ⟨_, _, h⟩ := zb4 h; rw [zbn h]
 case six => obtain ⟨_, _, h⟩ := zb4 h; obtain ⟨_, _, h⟩ := zb4 h; rw [zbn h]
 case lens => obtain ⟨_, _, h⟩ := zb4 h; rw [zbn h]
 case lenl => obtain ⟨_, _, h⟩ := zb4 h; rw [zbn h]
 case ext => obtain ⟨_, _, h⟩ := zb4 h; rw [zbn h]
 case cvt => obtain ⟨_, _, h⟩ := zb4 h; rw [zbn h]
 case mkf => obtain ⟨_, _, h⟩ := zb4 h; obtain ⟨_, _, h⟩ := zb4 h; cases h; rfl
 case bld => obtain ⟨_, _, h⟩ := zb4 h; rw [zbn h]
 case lk => obtain ⟨_, _, h⟩ := zb4 h; obtain ⟨_, _, h⟩ := zb4 h; rw [zbn h]
 case mu => obtain ⟨_, _, h⟩ := zb4 h; obtain ⟨_, _, h⟩ := zb4 h; obtain ⟨_, _, h⟩ := zb4 h; exact yao0 (zyn (H := H) h)
 case slc => obtain ⟨_, _, h⟩ := zb4 h; obtain ⟨_, _, h⟩ := zb4 h; obtain ⟨_, _, h⟩ := zb4 h; rw [zbn h]
 case ssl => obtain ⟨_, _, h⟩ := zb4 h; obtain ⟨_, _, h⟩ := zb4 h; obtain ⟨_, _, h⟩ := zb4 h; rw [zbn h]
 case cvs => obtain ⟨_, _, h⟩ := zb4 h; rw [zbn h]
 case mx => obtain ⟨_, _, h⟩ := zb4 h; obtain ⟨_, _, h⟩ := zb4 h; rw [zbn h]
 case mn => obtain ⟨_, _, h⟩ := zb4 h; obtain ⟨_, _, h⟩ := zb4 h; rw [zbn h]
theorem yahy (P : Program) (op : Op) : zd3 (cK P op) = zd2 op := by
 cases op with
 | call c =>
  obtain ⟨callee, args, ts⟩ := c
  cases callee with
  | value f => cases f <;> simp only [cK] <;> (repeat' split) <;> rfl
  | builtin b =>
   cases b <;> first | rfl | (simp only [cK]; (repeat' split) <;> rfl)
  | invoke r m => rfl
 | makeMap t r => cases r <;> first | rfl | (simp only [cK]; (repeat' split) <;> rfl)
 | slice t x lo hi mx => cases mx <;> first | rfl | (simp only [cK]; (repeat' split) <;> rfl)
 | makeFunc f a b => cases f <;> simp only [cK] <;> (repeat' split) <;> rfl
 | _ => first | rfl | (simp only [cK]; (repeat' split) <;> rfl)
theorem znl : ∀ (l : List Nat) (H : Heap), (zbw H l).next = H.next
 | [], _ => rfl
 | c :: l, H => by rw [zbw, znl l]; rfl
theorem zrq {P : Program} {m : Nat} {ops : Array Oper} {bef : Array Nat} {hs : List (Nat × Nat)} {e0 : EV} {H0 : Heap} : ∀ (l : List Oper) (i : Nat) (e : EV) (H : Heap) (kept : List (Nat × Nat × Nat)), (∀ j, l[j]? = (ops.toList.take m)[i + j]?) → (∀ q ∈ kept, q.1 < i ∧ mkO P ops q.1 = true) →
  zy3 P (om P) ops bef m (zds hs e0 H0) i l e H kept = L2 P (zds hs e0 H0) i (zipU P ops bef m hs i l) e H kept
 | [], i, e, H, kept, _, _ => rfl
 | o :: rest, i, e, H, kept, hi, hk => by
  have ho : ops[i]? = some o := by
   have := hi 0
   simp only [List.getElem?_cons_zero, Nat.add_zero, List.getElem?_take] at this
   split at this
   ·simpa using this.symm
   ·cases this
  have hi' : ∀ j, rest[j]? = (ops.toList.take m)[i + 1 + j]? := fun j => by have := hi (j + 1); simpa [Nat.add_assoc, Nat.add_comm 1 j] using this
  have hk1 : ∀ q ∈ kept, q.1 < i + 1 ∧ mkO P ops q.1 = true := fun q hq => ⟨Nat.lt_succ_of_lt (hk q hq).1, (hk q hq).2⟩
  have hk' : ∀ (v : AV) (H1 V : Heap), H1.next = H.next → kA P (om P) e H1 (cK P o.op) = some (v, V) → ∀ q ∈ (if V.next = H.next then kept else (i, H.next, V.next - H.next) :: kept), q.1 < i + 1 ∧ mkO P ops q.1 = true := by
   intro v H1 V hn hop q hq
   split at hq
   ·exact hk1 q hq
   ·rename_i hne
    rcases List.mem_cons.1 hq with rfl | hq
    ·refine ⟨Nat.lt_succ_self i, ?_⟩
     simp only [mkO, ho]
     cases hm : mkK (cK P o.op) with
     | true => rfl
     | false => exact absurd ((yaoy hm hop).trans hn) hne
    ·exact hk1 q hq
  simp only [zy3, zipU, L2, yaf9, yauk]
  have e1 : (cO P ops o).g = cG ops o.guard := rfl
  have e2 : (cO P ops o).k = cK P o.op := rfl
  have e3 : (cO P ops o).d = o.dst := rfl
  rw [e1, e2, e3, yahy]
  have hz := yac6 (P := P) (ops := ops) (hs := hs) (e := e0) (H := H0) (bef := bef) (m := m) (j := i) (n := H.next) hk
  generalize zpt (zds hs e0 H0) ((List.range m).filter fun i_1 => zuo bef i_1 i && hs.any (·.1 == i_1)) ((List.range i).filter fun i_1 => !(bef.getD i 0).testBit i_1 && mkO P ops i_1) H.next kept = z at hz ⊢
  subst hz
  have hy := yaot (W := zds hs e0 H0) (P := P) (ops := ops) (bef := bef) (m := m) (j := i) (n := H.next) hk
  rw [hy]
  cases gOk e (cG ops o.guard) with
  | none => rfl
  | some g =>
   cases g with
   | false => exact zrq rest (i + 1) _ H kept hi' hk1
   | true =>
    simp only
    split
    ·cases hop : kA P (om P) e H (cK P o.op) with
     | none => rfl
     | some r =>
      obtain ⟨v, V⟩ := r
      simp only
      split
      ·exact zrq rest (i + 1) _ V _ hi' (hk' v H V rfl hop)
      ·rfl
    ·cases hop : kA P (om P) e (zbw H (zjd (zds hs e0 H0) bef m i H.next kept)) (cK P o.op) with
     | none => rfl
     | some r =>
      obtain ⟨v, V⟩ := r
      simp only
      split
      ·exact zrq rest (i + 1) _ _ _ hi' (hk' v _ V (znl _ _) hop)
      ·rfl
theorem zsx {ops : Array Oper} {m : Nat} (h : zna ops = some m) : (ze5 ops (Region.before ops) && zi1 0 ops.toList && zzi ops (Region.before ops)) = true ∧ zc9 (Region.before ops) ops.size = m := by
 unfold zna at h
 dsimp only at h
 split at h
 ·rename_i hc; cases h; exact ⟨hc, rfl⟩
 ·cases h
theorem yafa {P : Program} {f : FuncId} {i m : Nat} {ops : Array Oper} {e : EV} {H : Heap} (hm : zna ops = some m) :
  runD P (om P) f i ops e H = stl (L2 P (zds (E.hint f i) e H) 0 (zipU P ops (Region.before ops) m (E.hint f i) 0 (ops.toList.take m)) e H []) (K4 P ((ops.toList.drop m).map (cO P ops))) := by
 obtain ⟨h1, h2⟩ := zsx hm
 unfold runD zob
 simp only [h1, h2, if_true]
 rw [zrq _ 0 _ _ _ (by simp) (by simp)]
 unfold stl K4
 simp only [zoc]
 generalize L2 P (zds (E.hint f i) e H) 0 (zipU P ops (Region.before ops) m (E.hint f i) 0 (ops.toList.take m)) e H [] = r
 cases r <;> rfl
abbrev RL (P : Program) (f : Func) (n r : Nat) (ks : List Nat) (pk : Option (List Nat)) (hs : List (Nat × Nat)) (u : List (O × List Nat × List Nat)) (l : List O) : Prop :=
 ∀ (rnd : Option Nat) (pin : Nat) (st : St), om P ⟨n, rnd⟩ pin (za7 f r) st = lim pk pin (reg (some ks) st.marks (stl (L2 P (zds hs st.env st.H) 0 u st.env st.H []) (K4 P l)))
theorem rl {P : Program} {f : Func} {n r : Nat} {ks : List Nat} {pk : Option (List Nat)} {hs : List (Nat × Nat)} {u1 : List (O × List Nat × List Nat)} {l2 : List O} (hu : resL P hs (za7 f r) = some (u1, l2)) (hh : E.hint n (zeo (za7 f r)) = hs) (hk : E.live n (3 * zeo (za7 f r)) = some ks) (hq : E.live n (3 * (zeo (za7 f r) + 1000000)) = pk) : RL P f n r ks pk hs u1 l2 := by
 intro rnd pin st
 generalize za7 f r = c at hu hh hk hq
 unfold resL at hu
 split at hu
 ·rename_i i ops
  split at hu
  ·rename_i m hm
   cases hu
   simp only [zeo] at hh hk hq
   rw [oy_draw, ← hh, yafa hm, hk, hq]
  ·cases hu
 ·cases hu
theorem yaq5 {P : Program} {h : List (Nat × Nat)} (hh : h = []) {e0 : EV} {H0 : Heap} : ∀ (us : List (O × List Nat × List Nat)) (i : Nat) (e : EV) (H : Heap) (r : EV × Heap), S2 P (us.map (·.1)) e H = some r → L2 P (zds h e0 H0) i us e H [] = some r
 | [], i, e, H, r, hr => hr
 | (o, ub) :: us, i, e, H, r, hr => by
  subst hh
  have ih := fun e' => yaq5 (P := P) (h := []) rfl (e0 := e0) (H0 := H0) us (i + 1) e' H r
  obtain ⟨u, b⟩ := ub
  simp only [List.map_cons, S2] at hr
  have hw : ∀ j, zds [] e0 H0 j = [] := fun j => rfl
  have hz : zpt (zds [] e0 H0) u b H.next [] = [] := by
   unfold zpt
   simp only [List.flatMap_nil, List.append_nil]
   rw [List.filter_eq_nil_iff]
   intro a ha
   obtain ⟨j, _, hj⟩ := List.mem_flatMap.1 ha
   rw [hw j] at hj; cases hj
  have hok : ∀ v, LOk [] [] (zds [] e0 H0 i) H H v := fun v =>
   ⟨Nat.le_refl _, id, by simpa using all_tt v, by simp [hw], fun _ _ _ _ => rfl, fun b x hb => by rcases hb with hb | hb <;> first | (simp [hw] at hb) | omega⟩
  simp only [L2]
  have hy : zpt (zds [] e0 H0) [] b H.next [] = [] := rfl
  rw [hy]
  generalize zpt (zds [] e0 H0) u b H.next [] = z at hz ⊢
  subst hz
  cases hg : gOk e o.g with
  | none => rw [hg] at hr; cases hr
  | some g =>
  rw [hg] at hr
  cases g with
  | false => exact ih _ hr
  | true =>
   simp only at hr ⊢
   cases hk : kA P (om P) e H o.k with
   | none => rw [hk] at hr; cases hr
   | some q =>
   obtain ⟨v, V⟩ := q
   rw [hk] at hr
   simp only at hr
   split at hr
   ·rename_i hV
    have hV' : V = H := @of_decide_eq_true _ (_) hV
    subst hV'
    have hkl : zbw V [] = V := rfl
    have hpl : zu0 V V [] = V := rfl
    simp only [hkl, hk, hpl]
    rw [if_pos (@decide_eq_true _ (_) (hok v))]
    simp only [if_true, ite_self]
    exact ih _ hr
   ·cases hr
where
 all_tt : ∀ v : AV, v.all (fun b => !([] : List Nat).contains b) = true
  | .bool _ | .int _ _ | .str _ | .nilp | .nilf | .nili | .map none | .rptr _ _ | .rsl _ _ _ _ => rfl
  | .ptr _ _ | .sl _ _ _ _ | .asl _ _ _ _ _ | .map (some _) | .yieldf _ => by simp [AV.all]
  | .func _ a b => by simp only [AV.all, all_ttL a, all_ttL b, Bool.and_self]
  | .iface _ v => by simp only [AV.all, all_tt v]
  | .agg l | .tup l => by simp only [AV.all, all_ttL l]
 all_ttL : ∀ l : List AV, AV.allL (fun b => !([] : List Nat).contains b) l = true
  | [] => rfl
  | v :: l => by simp only [AV.allL, all_tt v, all_ttL l, Bool.and_self]
abbrev RS (P : Program) (f : Func) (n r : Nat) (ks : List Nat) (pk : Option (List Nat)) (l1 l2 : List O) : Prop :=
 ∀ (rnd : Option Nat) (pin : Nat) (st : St), om P ⟨n, rnd⟩ pin (za7 f r) st = lim pk pin (reg (some ks) st.marks (dre (stl (S2 P l1 st.env st.H) (K4 P l2)) (Fo P ⟨n, rnd⟩ (za7 f r) st.env st.H)))
theorem yage {P : Program} {ops : Array Oper} {bef : Array Nat} {m : Nat} {hs : List (Nat × Nat)} : ∀ (l : List Oper) (i : Nat), (zipU P ops bef m hs i l).map (·.1) = l.map (cO P ops)
 | [], _ => rfl
 | o :: l, i => by rw [zipU, List.map_cons, yage l, List.map_cons]
theorem rs {P : Program} {f : Func} {n r : Nat} {ks : List Nat} {pk : Option (List Nat)} {l1 l2 : List O} (hu : resD P (za7 f r) = some (l1, l2)) (hh : E.hint n (zeo (za7 f r)) = []) (hk : E.live n (3 * zeo (za7 f r)) = some ks) (hq : E.live n (3 * (zeo (za7 f r) + 1000000)) = pk) : RS P f n r ks pk l1 l2 := by
 intro rnd pin st
 generalize za7 f r = c at hu hh hk hq
 unfold resD at hu
 split at hu
 ·rename_i i ops
  split at hu
  ·rename_i m hm
   cases hu
   simp only [zeo] at hh hk hq
   rw [oy_draw, hk, hq]
   congr 2
   cases hs : S2 P ((ops.toList.take m).map (cO P ops)) st.env st.H with
   | none => rfl
   | some q =>
    rw [← yage (P := P) (ops := ops) (bef := Region.before ops) (m := m) (hs := E.hint n i) (ops.toList.take m) 0] at hs
    have h1 := yaq5 (P := P) hh (e0 := st.env) (H0 := st.H) _ 0 st.env st.H q hs
    have h2 := yafa (P := P) (f := n) (i := i) (e := st.env) (H := st.H) hm
    rw [h1] at h2
    obtain ⟨e1, H1⟩ := q
    simp only [stl_some] at h2 ⊢
    unfold Fo
    simp only [h2]
    cases K4 P ((ops.toList.drop m).map (cO P ops)) e1 H1 <;> rfl
  ·cases hu
 ·cases hu
abbrev RG (P : Program) (f : Func) (n r : Nat) (ks : List Nat) (pk : Option (List Nat)) (l : List O) : Prop :=
 ∀ (rnd : Option Nat) (pin : Nat) (st : St), om P ⟨n, rnd⟩ pin (za7 f r) st = lim pk pin (reg (some ks) st.marks (R2 P l st.env st.H))
theorem rg {P : Program} {f : Func} {n r : Nat} {ks : List Nat} {pk : Option (List Nat)} {l : List O} (h : res P (za7 f r) = some l) (hk : E.live n (3 * zeo (za7 f r)) = some ks) (hq : E.live n (3 * (zeo (za7 f r) + 1000000)) = pk) : RG P f n r ks pk l :=
 fun rnd pin st => yae3 (some ks) pk h hk hq
def vis (hl : List Nat) (b : Nat) : Bool := !hl.contains b
def zwp (W hl : List Nat) (H V : Heap) : Nat → Prop
 | 0 => True
 | n + 1 => (W.contains n = true ∨ hl.contains n = true ∨ V.get n = H.get n) ∧ zwp W hl H V n
def yai7 (p : Nat → Bool) : Option Blk → Bool
 | some x => x.all p
 | none => true
def newB (W ml : List Nat) (H V : Heap) : Nat → Prop
 | 0 => True
 | n + 1 => ((n < H.next ∧ W.contains n = false) ∨ yai7 (vis ml) (V.get n) = true) ∧ newB W ml H V n
def lokB (hl ml W : List Nat) (H V : Heap) (v : AV) : Prop :=
 H.next ≤ V.next ∧ V.l.length ≤ V.next ∧ v.all (vis ml) = true ∧ (W.all fun b => decide (b < H.next) && !hl.contains b) = true ∧ zwp W hl H V H.next ∧ newB W ml H V V.next
theorem zx0 : ∀ (l : List (Option Blk)) (n : Nat), l.length ≤ n → zl2 l n = none
 | [], n, _ => zf8 n
 | x :: l, 0, h => by simp at h
 | x :: l, n + 1, h => zx0 l n (by simpa using h)
theorem zy4 {W hl : List Nat} {H V : Heap} : ∀ {n : Nat}, zwp W hl H V n → ∀ b, b < n → b ∉ W → hl.contains b = false → V.get b = H.get b
 | 0, _, b, hb, _, _ => by omega
 | n + 1, h, b, hb, hw, hh => by
  by_cases e : b = n
  ·subst e
   rcases h.1 with h | h | h
   ·exact absurd (by simpa using h) hw
   ·rw [hh] at h; cases h
   ·exact h
  ·exact zy4 h.2 b (by omega) hw hh
theorem yad7 {W hl : List Nat} {H V : Heap} : ∀ {n : Nat}, newB W hl H V n → ∀ b x, b < n → (b ∈ W ∨ H.next ≤ b) → V.get b = some x → x.all (vis hl) = true
 | 0, _, b, _, hb, _, _ => by omega
 | n + 1, h, b, x, hb, hw, hx => by
  by_cases e : b = n
  ·subst e
   rcases h.1 with ⟨h1, h2⟩ | h
   ·rcases hw with hw | hw
    ·have : W.contains b = true := by simpa using hw
     rw [h2] at this; cases this
    ·omega
   ·rw [hx] at h; exact h
  ·exact yad7 h.2 b x (by omega) hw hx
theorem yale {hl ml W : List Nat} {H V : Heap} {v : AV} (h : lokB hl ml W H V v) : LOk hl ml W H V v := by
 obtain ⟨h1, h2, h3, h4, h5, h6⟩ := h
 have lt : ∀ b x, V.get b = some x → b < V.next := fun b x hx => by
  rcases Nat.lt_or_ge b V.l.length with h | h
  ·omega
  ·unfold Heap.get at hx; rw [zx0 _ _ h] at hx; cases hx
 refine ⟨h1, fun _ => lt, h3, fun b hb => ?_, fun b hb hw hh => zy4 h5 b hb hw hh, fun b x hb hx => yad7 h6 b x (lt b x hx) (hb.imp id (·.1)) hx⟩
 have := List.all_eq_true.1 h4 b hb
 simpa using this
noncomputable def KF (P : Program) (W : Nat → List Nat) (i : Nat) (rest : List (O × List Nat × List Nat)) (e : EV) (d : Option Nat) (hl ml : List Nat) (H : Heap) (kept : List (Nat × Nat × Nat)) (v : AV) (V : Heap) : Ry :=
 if @decide (LOk hl ml (W i) H V v) (Classical.propDecidable _) then L2 P W (i + 1) rest (zcw e d v) V (if V.next = H.next then kept else (i, H.next, V.next - H.next) :: kept) else none
noncomputable def KV (P : Program) (W : Nat → List Nat) (i : Nat) (rest : List (O × List Nat × List Nat)) (e : EV) (d : Option Nat) (hl ml : List Nat) (H : Heap) (kept : List (Nat × Nat × Nat)) (v : AV) (V : Heap) : Ry :=
 if @decide (LOk hl ml (W i) H V v) (Classical.propDecidable _) then
  L2 P W (i + 1) rest (zcw e d v) (zu0 V H hl) (if V.next = H.next then kept else (i, H.next, V.next - H.next) :: kept) else none
noncomputable def UL (P : Program) (W : Nat → List Nat) (i : Nat) (o : K) (us bs : List Nat) (rest : List (O × List Nat × List Nat)) (e : EV) (d : Option Nat) (H : Heap) (kept : List (Nat × Nat × Nat)) (hl ml : List Nat) (_ : Unit) : Ry :=
 bif zd3 o then opr (kA P (om P) e H o) (KF P W i rest e d hl ml H kept) else opr (kA P (om P) e (zbw H hl) o) (KV P W i rest e d hl ml H kept)
noncomputable def VL (P : Program) (W : Nat → List Nat) (i : Nat) (rest : List (O × List Nat × List Nat)) (e : EV) (d : Option Nat) (H : Heap) (kept : List (Nat × Nat × Nat)) (_ : Unit) : Ry := L2 P W (i + 1) rest (zcw e d undefA) H kept
section
variable {P : Program} {i : Nat} {W : Nat → List Nat} {us bs hl ml : List Nat} {rest : List (O × List Nat × List Nat)} {e : EV} {d : Option Nat} {b : Bool} {k : K} {v : AV} {H V : Heap} {kept : List (Nat × Nat × Nat)} {t : Nat} {u : Unit}
theorem l2_nil : L2 P W i [] e H kept = some (e, H) := rfl
theorem l2_gu : L2 P W i ((⟨d, some (some t, b), k⟩, us, bs) :: rest) e H kept = gu (e.look t) b (UL P W i k us bs rest (e.rep t (.bool b)) d H kept (zpt W us bs H.next kept) (zpt W [] bs H.next kept)) (VL P W i rest (e.rep t (.bool !b)) d H kept) (VL P W i rest e d H kept) := by
 simp only [L2, gOk, gu, Option.bind]
 cases h : e.look t with
 | none => rfl
 | some v =>
  cases v <;> try rfl
  rename_i c
  cases c <;> cases b <;> simp only [Bool.not_true, Bool.not_false, znc h, UL, VL, opr, KF, KV] <;> cases zd3 k <;> rfl
theorem l2_op : L2 P W i ((⟨d, none, k⟩, us, bs) :: rest) e H kept = UL P W i k us bs rest e d H kept (zpt W us bs H.next kept) (zpt W [] bs H.next kept) () := by
 simp only [L2, gOk, UL, opr, KF, KV]
 cases zd3 k <;> rfl
theorem ul_free (h : zd3 k = true) : UL P W i k us bs rest e d H kept hl ml u = opr (kA P (om P) e H k) (KF P W i rest e d hl ml H kept) := by
 simp only [UL, h, cond_true]
theorem ul_view (h : zd3 k = false) : UL P W i k us bs rest e d H kept hl ml u = opr (kA P (om P) e (zbw H hl) k) (KV P W i rest e d hl ml H kept) := by
 simp only [UL, h, cond_false]
theorem vl : VL P W i rest e d H kept u = L2 P W (i + 1) rest (zcw e d undefA) H kept := rfl
theorem kf_ok (h : lokB hl ml (W i) H V v) : KF P W i rest e d hl ml H kept v V = L2 P W (i + 1) rest (zcw e d v) V (if V.next = H.next then kept else (i, H.next, V.next - H.next) :: kept) := by
 unfold KF; rw [if_pos (@decide_eq_true _ (_) (yale h))]
theorem kv_ok (h : lokB hl ml (W i) H V v) : KV P W i rest e d hl ml H kept v V = L2 P W (i + 1) rest (zcw e d v) (zu0 V H hl) (if V.next = H.next then kept else (i, H.next, V.next - H.next) :: kept) := by
 unfold KV; rw [if_pos (@decide_eq_true _ (_) (yale h))]
theorem killL_nil : zbw H [] = H := rfl
theorem killL_cons {b : Nat} {l : List Nat} : zbw H (b :: l) = zbw (H.kill b) l := rfl
theorem putL_nil {K : Heap} : zu0 H K [] = H := rfl
theorem putL_cons {K : Heap} {b : Nat} {l : List Nat} : zu0 H K (b :: l) = zu0 (H.setO b (K.get b)) K l := rfl
end
end
end Go.Ab
