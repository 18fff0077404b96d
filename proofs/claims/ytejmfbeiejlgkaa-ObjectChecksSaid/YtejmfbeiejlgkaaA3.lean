/- The interpreter over resolved operations, 3: regions and what follows. Conditions: in each statement. -/
import Derived.Test.YtejmfbeiejlgkaaA2
/-! The interpreter over resolved operations, 3: regions. Conditions: none. -/
set_option linter.unusedSimpArgs false
set_option linter.unusedVariables false
set_option linter.unusedSectionVars false
namespace Go.Ab
open Go
def cG (ops : Array Oper) (g : Option (Nat × Bool)) : Option (Option Nat × Bool) := match g with | some (j, b) => some ((ops[j]?).bind (·.dst), b) | none => none
def gOk (e : List AV) : Option (Option Nat × Bool) → Bool
  | none => true
  | some (t, b) => yt e t == some b
theorem wanted_ok {ops : Array Oper} {e : List AV} {o : Oper} : Region.wanted o (yieldedA ops e) = gOk e (cG ops o.guard) := by
  unfold Region.wanted cG
  cases o.guard with
  | none => rfl
  | some p => obtain ⟨j, b⟩ := p; simp only [gOk, yielded_yt]
section
variable [E : Env]
def cO (P : Program) (ops : Array Oper) (o : Oper) : O := ⟨o.dst, cG ops o.guard, heapFree o.op || onlyReads o.op, cK P o.op⟩
noncomputable def R2 (P : Program) (lo : Nat) : List O → List AV → Heap → Option (List AV × Heap)
  | [], e, H => some (e, H)
  | o :: rest, e, H =>
    if gOk e o.g then
      match kA P (om P) lo e H o.k with
      | some (v, H') => R2 P lo rest (putE e o.d v) H'
      | none => none
    else R2 P lo rest (putE e o.d undefA) H
noncomputable def S2 (P : Program) : List O → List AV → Heap → Option (List AV × Heap)
  | [], e, H => some (e, H)
  | o :: rest, e, H =>
    if gOk e o.g then
      match kA P (om P) H.next e H o.k with
      | some (v, H') => if @decide (H' = H) (Classical.propDecidable _) && (o.q || v.rf) then S2 P rest (putE e o.d v) H else none
      | none => none
    else S2 P rest (putE e o.d undefA) H
theorem runOps_R2 {P : Program} {lo : Nat} {ops : Array Oper} : ∀ (l : List Oper) (e : List AV) (H : Heap), runOps P (om P) lo ops l e H = R2 P lo (l.map (cO P ops)) e H
  | [], e, H => rfl
  | o :: rest, e, H => by
    simp only [runOps, List.map_cons, R2, wanted_ok, opA_k]
    simp only [runOps_R2 rest]
    rfl
theorem runStill_S2 {P : Program} {ops : Array Oper} : ∀ (l : List Oper) (e : List AV) (H : Heap), runStill P (om P) ops l e H = S2 P (l.map (cO P ops)) e H
  | [], e, H => rfl
  | o :: rest, e, H => by
    simp only [runStill, List.map_cons, S2, wanted_ok, opA_k]
    simp only [runStill_S2 rest]
    simp only [cO, Bool.or_assoc]
    rfl

/-! ### steps -/
noncomputable def K2 (P : Program) (lo : Nat) (rest : List O) (e : List AV) (d : Option Nat) (v : AV) (H : Heap) : Option (List AV × Heap) := R2 P lo rest (putE e d v) H
noncomputable def K3 (P : Program) (rest : List O) (e : List AV) (d : Option Nat) (q : Bool) (H0 : Heap) (v : AV) (H : Heap) : Option (List AV × Heap) :=
  if @decide (H = H0) (Classical.propDecidable _) && (q || v.rf) then S2 P rest (putE e d v) H0 else none
/-- a guard, what it must say, and the two ways -/
def gu (y : Option Bool) (b : Bool) (x z : Unit → Option (List AV × Heap)) : Option (List AV × Heap) := if y == some b then x () else z ()
@[congr] theorem gu_congr {y y' : Option Bool} {b : Bool} {x z : Unit → Option (List AV × Heap)} (h : y = y') : gu y b x z = gu y' b x z := by rw [h]
theorem gu_tt {x z : Unit → Option (List AV × Heap)} : gu (some true) true x z = x () := rfl
theorem gu_ff {x z : Unit → Option (List AV × Heap)} : gu (some false) false x z = x () := rfl
theorem gu_tf {x z : Unit → Option (List AV × Heap)} : gu (some true) false x z = z () := rfl
theorem gu_ft {x z : Unit → Option (List AV × Heap)} : gu (some false) true x z = z () := rfl
theorem gu_n {b : Bool} {x z : Unit → Option (List AV × Heap)} : gu none b x z = z () := rfl
noncomputable def U2 (P : Program) (lo : Nat) (k : K) (rest : List O) (e : List AV) (d : Option Nat) (H : Heap) (_ : Unit) : Option (List AV × Heap) := opr (kA P (om P) lo e H k) (K2 P lo rest e d)
noncomputable def V2 (P : Program) (lo : Nat) (rest : List O) (e : List AV) (d : Option Nat) (H : Heap) (_ : Unit) : Option (List AV × Heap) := R2 P lo rest (putE e d undefA) H
noncomputable def U3 (P : Program) (k : K) (q : Bool) (rest : List O) (e : List AV) (d : Option Nat) (H : Heap) (_ : Unit) : Option (List AV × Heap) := opr (kA P (om P) H.next e H k) (K3 P rest e d q H)
noncomputable def V3 (P : Program) (rest : List O) (e : List AV) (d : Option Nat) (H : Heap) (_ : Unit) : Option (List AV × Heap) := S2 P rest (putE e d undefA) H
section
variable {P : Program} {lo : Nat} {rest : List O} {e : List AV} {d : Nat} {q b : Bool} {k : K} {v : AV} {H H0 : Heap} {t : Nat} {u : Unit}
theorem r2_nil : R2 P lo [] e H = some (e, H) := rfl
theorem r2_op {d : Option Nat} : R2 P lo (⟨d, none, q, k⟩ :: rest) e H = opr (kA P (om P) lo e H k) (K2 P lo rest e d) := by
  simp only [R2, gOk, if_true]; rfl
theorem r2_gu {d : Option Nat} : R2 P lo (⟨d, some (some t, b), q, k⟩ :: rest) e H = gu (yb (gd e t)) b (U2 P lo k rest e d H) (V2 P lo rest e d H) := by
  simp only [R2, gOk, yt]; rfl
theorem k2_s : K2 P lo rest e (some d) v H = R2 P lo rest (e.set d v) H := rfl
theorem k2_n : K2 P lo rest e none v H = R2 P lo rest e H := rfl
theorem u2 {d : Option Nat} : U2 P lo k rest e d H u = opr (kA P (om P) lo e H k) (K2 P lo rest e d) := rfl
theorem v2_s : V2 P lo rest e (some d) H u = R2 P lo rest (e.set d undefA) H := rfl
theorem v2_n : V2 P lo rest e none H u = R2 P lo rest e H := rfl
theorem s2_nil : S2 P [] e H = some (e, H) := rfl
theorem s2_op {d : Option Nat} : S2 P (⟨d, none, q, k⟩ :: rest) e H = opr (kA P (om P) H.next e H k) (K3 P rest e d q H) := by
  simp only [S2, gOk, if_true]; rfl
theorem s2_gu {d : Option Nat} : S2 P (⟨d, some (some t, b), q, k⟩ :: rest) e H = gu (yb (gd e t)) b (U3 P k q rest e d H) (V3 P rest e d H) := by
  simp only [S2, gOk, yt]; rfl
theorem k3_q : K3 P rest e (some d) true H v H = S2 P rest (e.set d v) H := by simp [K3]; rfl
theorem k3_r (h : v.rf = true) : K3 P rest e (some d) q H v H = S2 P rest (e.set d v) H := by simp [K3, h]; rfl
theorem k3_qn : K3 P rest e none true H v H = S2 P rest e H := by simp [K3]; rfl
theorem k3_rn (h : v.rf = true) : K3 P rest e none q H v H = S2 P rest e H := by simp [K3, h]; rfl
theorem u3 {d : Option Nat} : U3 P k q rest e d H u = opr (kA P (om P) H.next e H k) (K3 P rest e d q H) := rfl
theorem v3_s : V3 P rest e (some d) H u = S2 P rest (e.set d undefA) H := rfl
theorem v3_n : V3 P rest e none H u = S2 P rest e H := rfl
theorem same_some : same H (some v) = some (v, H) := rfl
theorem put_some : put (some H) = some (undefA, H) := rfl
theorem kr_undef : undefA.rf = true := rfl
end

/-! ### regions by name -/
def regC (id : Nat) : Code → Option Code
  | .seq a b => match regC id a with | some c => some c | none => regC id b
  | .cond _ a b => match regC id a with | some c => some c | none => regC id b
  | .block _ a => regC id a
  | .loop a => regC id a
  | .scope a => regC id a
  | .rangeFunc _ _ a b => match regC id a with | some c => some c | none => regC id b
  | .region i ops d => if i = id then some (.region i ops d) else none
  | _ => none
def regOf (f : Func) (id : Nat) : Code := (regC id (f.body.getD .skip)).getD .skip
def opOf (f : Func) (id j : Nat) : Op := (((regAt f id)[j]?).map (·.op)).getD (.ready 0)
def res (P : Program) : Code → Option (List O)
  | .region _ ops false => some (ops.toList.map (cO P ops))
  | _ => none
def resD (P : Program) : Code → Option (List O × List O)
  | .region _ ops true => match drawLen ops with
    | some m => some ((ops.toList.take m).map (cO P ops), (ops.toList.drop m).map (cO P ops))
    | none => none
  | _ => none
noncomputable def Fb (P : Program) (lo : Nat) (c : Code) (e : List AV) (H : Heap) : Option (List AV × Heap) := match c with | .region _ ops _ => runDraw P (om P) lo ops e H | _ => none
noncomputable def K4 (P : Program) (lo : Nat) (l : List O) (e : List AV) (H : Heap) : Option (List AV × Heap) := R2 P lo l e H
theorem k4 {P : Program} {lo : Nat} {l : List O} {e : List AV} {H : Heap} : K4 P lo l e H = R2 P lo l e H := rfl
theorem res_run {P : Program} {cx : Ctx} {lo : Nat} {c : Code} {st : St} {l : List O} (h : res P c = some l) : om P cx lo c st = reg st.marks (R2 P lo l st.env st.H) := by
  unfold res at h
  split at h
  · cases h; rw [oy_region, runOps_R2]
  · cases h
/-- the number of a region -/
def ridOf : Code → Nat
  | .region i _ _ => i
  | _ => 0
theorem resD_run {P : Program} {cx : Ctx} {lo : Nat} {c : Code} {st : St} {l1 l2 : List O} (h : resD P c = some (l1, l2)) (hh : E.hint cx.fn (ridOf c) = none) :
    om P cx lo c st = reg st.marks (dre (stl (S2 P l1 st.env st.H) (K4 P lo l2)) (Fb P lo c st.env st.H)) := by
  unfold resD at h
  split at h
  · rename_i i ops
    split at h
    · rename_i m hm
      cases h
      have hh' : E.hint cx.fn i = none := hh
      rw [oy_draw hh', hm, dr_eq hm, runStill_S2]
      have e : Kd P (om P) lo ops (ops.toList.drop m) = K4 P lo ((ops.toList.drop m).map (cO P ops)) := by
        funext a b; exact runOps_R2 _ _ _
      rw [e]
      rfl
    · cases h
  · cases h

/-! ### loud regions -/
def kFree : K → Bool
  | .mv _ | .pick .. | .new .. | .box .. | .nz _ | .bin .. | .un .. | .fa .. | .fld .. | .ixs .. | .six .. | .ext .. | .mkf .. | .bld .. | .bsl .. => true
  | .raw op => heapFree op
  | _ => false
theorem kFree_ok (P : Program) (op : Op) : kFree (cK P op) = heapFree op := by
  cases op with
  | call c =>
    obtain ⟨callee, args, ts⟩ := c
    cases callee with
    | value f => cases f <;> simp only [cK] <;> (repeat' split) <;> rfl
    | builtin b =>
      cases b <;> try rfl
      simp only [cK]
      (repeat' split) <;> rfl
    | invoke r m => rfl
  | makeFunc f a b => cases f <;> simp only [cK] <;> (repeat' split) <;> rfl
  | _ => first | rfl | (simp only [cK]; (repeat' split) <;> rfl)
theorem fr_mv (x : Q) : kFree (.mv x) = true := rfl
theorem fr_pick (a b c : Q) : kFree (.pick a b c) = true := rfl
theorem fr_new (t : TypeId) (z : List AV) : kFree (.new t z) = true := rfl
theorem fr_box (t : TypeId) (n : Nat) (x : Q) : kFree (.box t n x) = true := rfl
theorem fr_nz (x : Q) : kFree (.nz x) = true := rfl
theorem fr_bin (o : BinOp) (t : TypeId) (x y : Q) : kFree (.bin o t x y) = true := rfl
theorem fr_un (o : UnOp) (x : Q) : kFree (.un o x) = true := rfl
theorem fr_fa (o : Nat) (x : Q) : kFree (.fa o x) = true := rfl
theorem fr_fld (o : Nat) (n : Option Nat) (x : Q) : kFree (.fld o n x) = true := rfl
theorem fr_ixs (s : Nat) (x y : Q) : kFree (.ixs s x y) = true := rfl
theorem fr_six (x y : Q) : kFree (.six x y) = true := rfl
theorem fr_ext (i : Nat) (x : Q) : kFree (.ext i x) = true := rfl
theorem fr_mkf (f : FuncId) (a b : List Q) : kFree (.mkf f a b) = true := rfl
theorem fr_bld (z : List AV) (p : List (Nat × Nat)) (l : List (Nat × Q)) : kFree (.bld z p l) = true := rfl
theorem fr_bsl (t : TypeId) (s : Nat) (z : List AV) (n : Nat) (l : List (Nat × Q)) : kFree (.bsl t s z n l) = true := rfl
theorem fr_ld (n : Option Nat) (x : Q) : kFree (.ld n x) = false := rfl
theorem fr_st (n : Nat) (a x : Q) : kFree (.st n a x) = false := rfl
theorem fr_lens (x : Q) : kFree (.lens x) = false := rfl
theorem fr_lenl (x : Q) : kFree (.lenl x) = false := rfl
theorem fr_call (f : FuncId) (l : List Q) : kFree (.call f l) = false := rfl
theorem fr_callv (f : Q) (l : List Q) : kFree (.callv f l) = false := rfl
theorem fr_cvt (k : IntKind) (x : Q) : kFree (.cvt k x) = false := rfl
theorem fr_raw (o : Op) : kFree (.raw o) = heapFree o := rfl
def hid2 (W : Nat → List Nat) (us bs : List Nat) (n : Nat) (kept : List (Nat × Nat × Nat)) : List Nat :=
  (us.flatMap W ++ kept.flatMap fun q => if bs.contains q.1 then [] else List.range' q.2.1 q.2.2).filter fun b => decide (b < n)
noncomputable def L2 (P : Program) (lo : Nat) (W : Nat → List Nat) : Nat → List (O × List Nat × List Nat) → List AV → Heap → List (Nat × Nat × Nat) → Option (List AV × Heap)
  | _, [], e, H, _ => some (e, H)
  | i, (o, us, bs) :: rest, e, H, kept =>
    if gOk e o.g then
      if kFree o.k then
        match kA P (om P) lo e H o.k with
        | some (v, V) =>
          if @decide (LOk (hid2 W us bs H.next kept) (W i) H V v) (Classical.propDecidable _) then
            L2 P lo W (i + 1) rest (putE e o.d v) V (if V.next = H.next then kept else (i, H.next, V.next - H.next) :: kept)
          else none
        | none => none
      else
        match kA P (om P) lo e (killL H (hid2 W us bs H.next kept)) o.k with
        | some (v, V) =>
          if @decide (LOk (hid2 W us bs H.next kept) (W i) H V v) (Classical.propDecidable _) then
            L2 P lo W (i + 1) rest (putE e o.d v) (if @decide (V = killL H (hid2 W us bs H.next kept)) (Classical.propDecidable _) then H else putL V H (hid2 W us bs H.next kept))
              (if V.next = H.next then kept else (i, H.next, V.next - H.next) :: kept)
          else none
        | none => none
    else L2 P lo W (i + 1) rest (putE e o.d undefA) H kept
/-- the operations with, for each, those without an order to it and those before it -/
def zipU (P : Program) (ops : Array Oper) (bef : Array Nat) (m : Nat) : Nat → List Oper → List (O × List Nat × List Nat)
  | _, [] => []
  | j, o :: l => (cO P ops o, (List.range m).filter (fun i => unord bef i j), (List.range m).filter (fun i => (bef.getD j 0).testBit i)) :: zipU P ops bef m (j + 1) l
theorem flat_filter {W : Nat → List Nat} {p : Nat → Bool} : ∀ l : List Nat, (l.flatMap fun i => if p i then W i else []) = (l.filter p).flatMap W
  | [] => rfl
  | a :: l => by
    simp only [List.flatMap_cons, List.filter_cons]
    cases h : p a <;> simp [flat_filter l]
theorem hid2_eq {W : Nat → List Nat} {bef : Array Nat} {m j n : Nat} {kept : List (Nat × Nat × Nat)} (hk : ∀ q ∈ kept, q.1 < m) :
    hid2 W ((List.range m).filter (fun i => unord bef i j)) ((List.range m).filter (fun i => (bef.getD j 0).testBit i)) n kept = hidL W bef m j n kept := by
  unfold hid2 hidL
  rw [flat_filter]
  congr 2
  have fc : ∀ (l : List (Nat × Nat × Nat)) (f g : Nat × Nat × Nat → List Nat), (∀ q ∈ l, f q = g q) → l.flatMap f = l.flatMap g := by
    intro l f g h
    induction l with
    | nil => rfl
    | cons a l ih => rw [List.flatMap_cons, List.flatMap_cons, h a (by simp), ih (fun q hq => h q (by simp [hq]))]
  refine fc _ _ _ fun q hq => ?_
  have : ((List.range m).filter (fun i => (bef.getD j 0).testBit i)).contains q.1 = (bef.getD j 0).testBit q.1 := by
    rw [List.contains_eq_mem]
    cases hb : (bef.getD j 0).testBit q.1 with
    | true => exact decide_eq_true (List.mem_filter.2 ⟨List.mem_range.2 (hk q hq), hb⟩)
    | false => exact decide_eq_false fun h => by have := (List.mem_filter.1 h).2; rw [hb] at this; cases this
  rw [this]
theorem runL_L2 {P : Program} {lo m : Nat} {ops : Array Oper} {bef : Array Nat} {W : Nat → List Nat} : ∀ (l : List Oper) (i : Nat) (e : List AV) (H : Heap) (kept : List (Nat × Nat × Nat)), i + l.length ≤ m → (∀ q ∈ kept, q.1 < m) →
    runL P (om P) lo ops bef m W i l e H kept = L2 P lo W i (zipU P ops bef m i l) e H kept
  | [], i, e, H, kept, _, _ => rfl
  | o :: rest, i, e, H, kept, hi, hk => by
    simp only [List.length_cons] at hi
    have hk' : ∀ (V : Heap), ∀ q ∈ (if V.next = H.next then kept else (i, H.next, V.next - H.next) :: kept), q.1 < m := by
      intro V q hq
      split at hq
      · exact hk q hq
      · rcases List.mem_cons.1 hq with rfl | hq
        · simp only; omega
        · exact hk q hq
    simp only [runL, zipU, L2, wanted_ok, opA_k]
    have e1 : (cO P ops o).g = cG ops o.guard := rfl
    have e2 : (cO P ops o).k = cK P o.op := rfl
    have e3 : (cO P ops o).d = o.dst := rfl
    rw [e1, e2, e3, kFree_ok]
    have ih := fun e' (V V' : Heap) => runL_L2 (P := P) (lo := lo) (W := W) (ops := ops) (bef := bef) rest (i + 1) e' V' (if V.next = H.next then kept else (i, H.next, V.next - H.next) :: kept) (by omega) (hk' V)
    have ih0 := fun e' V' => runL_L2 (P := P) (lo := lo) (W := W) (ops := ops) (bef := bef) rest (i + 1) e' V' kept (by omega) hk
    have hz := hid2_eq (W := W) (bef := bef) (j := i) (n := H.next) hk
    generalize hid2 W ((List.range m).filter fun i_1 => unord bef i_1 i) ((List.range m).filter fun i_1 => (bef.getD i 0).testBit i_1) H.next kept = z at hz ⊢
    subst hz
    simp only [ih, ih0]
    rfl
def resLd (P : Program) : Code → Option (List (O × List Nat × List Nat) × List O)
  | .region _ ops true => match drawLen ops with
    | some m => some (zipU P ops (Region.before ops) m 0 (ops.toList.take m), (ops.toList.drop m).map (cO P ops))
    | none => none
  | _ => none
theorem resL_run {P : Program} {cx : Ctx} {lo : Nat} {c : Code} {st : St} {l1 : List (O × List Nat × List Nat)} {l2 : List O} {W : List AV → Heap → Nat → List Nat} (h : resLd P c = some (l1, l2)) (hh : E.hint cx.fn (ridOf c) = some W) :
    om P cx lo c st = reg st.marks (stl (L2 P lo (W st.env st.H) 0 l1 st.env st.H []) (K4 P lo l2)) := by
  unfold resLd at h
  split at h
  · rename_i i ops
    split at h
    · rename_i m hm
      cases h
      obtain ⟨h1, h2⟩ := drawLen_some hm
      have hh' : E.hint cx.fn i = some W := hh
      rw [oy_loud hh']
      have e : runLoud P (om P) lo ops (W st.env st.H) st.env st.H = stl (L2 P lo (W st.env st.H) 0 (zipU P ops (Region.before ops) m 0 (ops.toList.take m)) st.env st.H []) (K4 P lo ((ops.toList.drop m).map (cO P ops))) := by
        unfold runLoud
        simp only [h1, h2, if_true]
        rw [runL_L2 _ 0 _ _ _ (by simp; omega) (by simp)]
        unfold stl K4
        simp only [runOps_R2]
        generalize L2 P lo (W st.env st.H) 0 (zipU P ops (Region.before ops) m 0 (ops.toList.take m)) st.env st.H [] = r
        cases r <;> rfl
      rw [e]
    · cases h
  · cases h
/-- what comes behind an operation of a loud region -/
noncomputable def KF (P : Program) (lo : Nat) (W : Nat → List Nat) (i : Nat) (rest : List (O × List Nat × List Nat)) (e : List AV) (d : Option Nat) (hl : List Nat) (H : Heap) (kept : List (Nat × Nat × Nat)) (v : AV) (V : Heap) : Option (List AV × Heap) :=
  if @decide (LOk hl (W i) H V v) (Classical.propDecidable _) then L2 P lo W (i + 1) rest (putE e d v) V (if V.next = H.next then kept else (i, H.next, V.next - H.next) :: kept) else none
noncomputable def KV (P : Program) (lo : Nat) (W : Nat → List Nat) (i : Nat) (rest : List (O × List Nat × List Nat)) (e : List AV) (d : Option Nat) (hl : List Nat) (H : Heap) (kept : List (Nat × Nat × Nat)) (v : AV) (V : Heap) : Option (List AV × Heap) :=
  if @decide (LOk hl (W i) H V v) (Classical.propDecidable _) then
    L2 P lo W (i + 1) rest (putE e d v) (if @decide (V = killL H hl) (Classical.propDecidable _) then H else putL V H hl) (if V.next = H.next then kept else (i, H.next, V.next - H.next) :: kept) else none
noncomputable def UL (P : Program) (lo : Nat) (W : Nat → List Nat) (i : Nat) (o : K) (us bs : List Nat) (rest : List (O × List Nat × List Nat)) (e : List AV) (d : Option Nat) (H : Heap) (kept : List (Nat × Nat × Nat)) (_ : Unit) : Option (List AV × Heap) :=
  bif kFree o then opr (kA P (om P) lo e H o) (KF P lo W i rest e d (hid2 W us bs H.next kept) H kept) else opr (kA P (om P) lo e (killL H (hid2 W us bs H.next kept)) o) (KV P lo W i rest e d (hid2 W us bs H.next kept) H kept)
noncomputable def VL (P : Program) (lo : Nat) (W : Nat → List Nat) (i : Nat) (rest : List (O × List Nat × List Nat)) (e : List AV) (d : Option Nat) (H : Heap) (kept : List (Nat × Nat × Nat)) (_ : Unit) : Option (List AV × Heap) := L2 P lo W (i + 1) rest (putE e d undefA) H kept
section
variable {P : Program} {lo i : Nat} {W : Nat → List Nat} {us bs hl : List Nat} {rest : List (O × List Nat × List Nat)} {e : List AV} {d : Nat} {q b : Bool} {k : K} {v : AV} {H V : Heap} {kept : List (Nat × Nat × Nat)} {t : Nat} {u : Unit}
theorem l2_nil : L2 P lo W i [] e H kept = some (e, H) := rfl
theorem l2_gu {d : Option Nat} : L2 P lo W i ((⟨d, some (some t, b), q, k⟩, us, bs) :: rest) e H kept = gu (yb (gd e t)) b (UL P lo W i k us bs rest e d H kept) (VL P lo W i rest e d H kept) := by
  simp only [L2, gOk, yt, gu, UL, VL, opr, KF, KV]
  cases kFree k <;> rfl
theorem l2_op {d : Option Nat} : L2 P lo W i ((⟨d, none, q, k⟩, us, bs) :: rest) e H kept = UL P lo W i k us bs rest e d H kept () := by
  simp only [L2, gOk, if_true, UL, opr, KF, KV]
  cases kFree k <;> rfl
theorem ul_free {d : Option Nat} (h : kFree k = true) : UL P lo W i k us bs rest e d H kept u = opr (kA P (om P) lo e H k) (KF P lo W i rest e d (hid2 W us bs H.next kept) H kept) := by
  simp only [UL, h, cond_true]
theorem ul_view {d : Option Nat} (h : kFree k = false) : UL P lo W i k us bs rest e d H kept u = opr (kA P (om P) lo e (killL H (hid2 W us bs H.next kept)) k) (KV P lo W i rest e d (hid2 W us bs H.next kept) H kept) := by
  simp only [UL, h, cond_false]
theorem vl_s : VL P lo W i rest e (some d) H kept u = L2 P lo W (i + 1) rest (e.set d undefA) H kept := rfl
theorem vl_n : VL P lo W i rest e none H kept u = L2 P lo W (i + 1) rest e H kept := rfl
theorem lok_same (hv : v.all (fun b => !hl.contains b) = true) : LOk hl [] H H v :=
  ⟨Nat.le_refl _, id, hv, by simp, fun _ _ _ _ => rfl, fun b x hb => by rcases hb with hb | hb <;> first | (simp at hb) | omega⟩
theorem lok_kill (hv : v.all (fun b => !hl.contains b) = true) : LOk hl [] H (killL H hl) v := by
  have hn := killL_next hl H
  refine ⟨by rw [hn]; exact Nat.le_refl _, fun h b x hx => ?_, hv, by simp, fun b hb _ hh => ?_, fun b x hb => ?_⟩
  · rw [killL_get] at hx
    split at hx
    · cases hx
    · rw [hn]; exact h b x hx
  · rw [killL_get, if_neg (by simpa using hh)]
  · rcases hb with hb | hb
    · simp at hb
    · omega
theorem lok_push {x : Blk} (hv : v.all (fun b => !hl.contains b) = true) (hx : x.all (fun b => !hl.contains b) = true) : LOk hl [] H (H.push x) v := by
  refine ⟨by simp, fun h b y hy => ?_, hv, by simp, fun b hb _ _ => by rw [Heap.get_push, if_neg (by omega)], fun b y hb hy => ?_⟩
  · rw [Heap.get_push] at hy
    split at hy
    · simp; omega
    · have := h b y hy; simp; omega
  · rcases hb with hb | hb
    · simp at hb
    · simp only [Heap.next_push] at hb
      have : b = H.next := by omega
      rw [Heap.get_push, if_pos this] at hy
      cases hy; exact hx
theorem lok_set {x : Blk} {c : Nat} (hn : c < H.next) (hh : hl.contains c = false) (hv : v.all (fun b => !hl.contains b) = true) (hx : x.all (fun b => !hl.contains b) = true) : LOk hl [c] H (H.set c x) v := by
  refine ⟨Nat.le_refl _, fun h b z hz => ?_, hv, fun b hb => by simp at hb; subst hb; exact ⟨hn, hh⟩, fun b hb hw _ => by rw [Heap.get_set, if_neg (by simpa using hw)], fun b z hb hz => ?_⟩
  · rw [Heap.get_set] at hz
    split at hz
    · subst_vars; exact hn
    · exact h b z hz
  · rcases hb with hb | hb
    · simp at hb; subst hb; rw [Heap.get_set, if_pos rfl] at hz; cases hz; exact hx
    · simp at hb; omega
theorem kf_same (hw : W i = []) (hv : v.all (fun b => !hl.contains b) = true) : KF P lo W i rest e (some d) hl H kept v H = L2 P lo W (i + 1) rest (e.set d v) H kept := by
  have := lok_same (H := H) hv
  simp only [KF, hw, this, decide_true, if_true]; rfl
theorem kf_push {x : Blk} (hw : W i = []) (hv : v.all (fun b => !hl.contains b) = true) (hx : x.all (fun b => !hl.contains b) = true) : KF P lo W i rest e (some d) hl H kept v (H.push x) = L2 P lo W (i + 1) rest (e.set d v) (H.push x) ((i, H.next, 1) :: kept) := by
  have := lok_push (H := H) hv hx
  simp only [KF, hw, this, decide_true, if_true]
  rw [if_neg (by simp)]
  simp [putE]
theorem kv_kill {d : Option Nat} (hw : W i = []) (hv : v.all (fun b => !hl.contains b) = true) : KV P lo W i rest e d hl H kept v (killL H hl) = L2 P lo W (i + 1) rest (putE e d v) H kept := by
  have := lok_kill (H := H) hv
  simp only [KV, hw, this, decide_true, if_true]
  rw [if_pos (killL_next hl H)]
theorem kv_nil {d : Option Nat} (h : LOk [] (W i) H V v) : KV P lo W i rest e d [] H kept v V = L2 P lo W (i + 1) rest (putE e d v) V (if V.next = H.next then kept else (i, H.next, V.next - H.next) :: kept) := by
  unfold KV
  rw [if_pos (@decide_eq_true _ (_) h)]
  by_cases hv : V = killL H []
  · rw [if_pos (@decide_eq_true _ (_) hv)]; rw [show V = H from hv]
  · rw [if_neg (fun k => hv (@of_decide_eq_true _ (_) k))]; rfl
theorem kv_same {d : Option Nat} (hw : W i = []) : KV P lo W i rest e d [] H kept v H = L2 P lo W (i + 1) rest (putE e d v) H kept := by
  rw [kv_nil (by rw [hw]; exact lok_same (by simp [all_true])), if_pos rfl]
theorem hid2_zero {W : Nat → List Nat} {us bs : List Nat} {n j a : Nat} : hid2 W us bs n ((j, a, 0) :: kept) = hid2 W us bs n kept := by
  simp [hid2, List.flatMap_cons]
theorem hid2_app {W : Nat → List Nat} {us bs : List Nat} {n j a : Nat} {l : List (Nat × Nat × Nat)} : hid2 W us bs n (l ++ (j, a, 0) :: kept) = hid2 W us bs n (l ++ kept) := by
  simp [hid2, List.flatMap_append, List.flatMap_cons]
theorem L2_zero {P : Program} {lo : Nat} {W : Nat → List Nat} {j a : Nat} {kept : List (Nat × Nat × Nat)} : ∀ (ops : List (O × List Nat × List Nat)) (i : Nat) (e : List AV) (H : Heap) (l : List (Nat × Nat × Nat)), L2 P lo W i ops e H (l ++ (j, a, 0) :: kept) = L2 P lo W i ops e H (l ++ kept)
  | [], _, _, _, _ => rfl
  | (o, us, bs) :: ops, i, e, H, l => by
    have ih := fun e' (H' V : Heap) => L2_zero (P := P) (lo := lo) (W := W) (j := j) (a := a) (kept := kept) ops (i + 1) e' H' ((i, H.next, V.next - H.next) :: l)
    have ih0 := fun e' H' => L2_zero (P := P) (lo := lo) (W := W) (j := j) (a := a) (kept := kept) ops (i + 1) e' H' l
    have e1 : ∀ V : Heap, (if V.next = H.next then l ++ (j, a, 0) :: kept else (i, H.next, V.next - H.next) :: (l ++ (j, a, 0) :: kept)) = (if V.next = H.next then l ++ (j, a, 0) :: kept else ((i, H.next, V.next - H.next) :: l) ++ (j, a, 0) :: kept) := fun _ => rfl
    have e2 : ∀ e' (H' V : Heap), L2 P lo W (i + 1) ops e' H' (if V.next = H.next then l ++ (j, a, 0) :: kept else (i, H.next, V.next - H.next) :: (l ++ (j, a, 0) :: kept)) = L2 P lo W (i + 1) ops e' H' (if V.next = H.next then l ++ kept else (i, H.next, V.next - H.next) :: (l ++ kept)) := by
      intro e' H' V
      by_cases h : V.next = H.next
      · rw [if_pos h, if_pos h]; exact ih0 e' H'
      · rw [if_neg h, if_neg h]; exact ih e' H' V
    have hh := hid2_app (W := W) (us := us) (bs := bs) (n := H.next) (j := j) (a := a) (l := l) (kept := kept)
    simp only [L2, e2, ih0]
    generalize hid2 W us bs H.next (l ++ (j, a, 0) :: kept) = z at hh ⊢
    subst hh
    rfl
theorem lok_ext (h : Ext H V) : LOk [] [] H V v :=
  ⟨h.1, h.2.2, by have := all_true v; simpa using this, by simp, fun b hb _ _ => h.2.1 b hb, fun b x _ _ => by cases x <;> simp [Blk.all, allL_true, all_true]⟩
/-- a call that has made new memory -/
theorem kv_ext {d : Option Nat} (hw : W i = []) (h : Ext H V) : KV P lo W i rest e d [] H kept v V = L2 P lo W (i + 1) rest (putE e d v) V ((i, H.next, V.next - H.next) :: kept) := by
  rw [kv_nil (by rw [hw]; exact lok_ext h)]
  by_cases hn : V.next = H.next
  · rw [if_pos hn, hn, Nat.sub_self]
    exact (L2_zero (j := i) (a := H.next) rest (i + 1) _ V []).symm
  · rw [if_neg hn]
theorem putE_some : putE e (some d) v = e.set d v := rfl
theorem putE_none : putE e none v = e := rfl
theorem killL_nil : killL H [] = H := rfl
theorem all_nil : v.all (fun b => !([] : List Nat).contains b) = true := by
  have := all_true v
  simpa using this
theorem ball_nil {x : Blk} : x.all (fun b => !([] : List Nat).contains b) = true := by
  cases x <;> simp [Blk.all, allL_true, all_true]
end
end
end Go.Ab
/-! The interpreter over resolved operations, 4: reading memory. Conditions: in each statement. -/
set_option linter.unusedSimpArgs false
set_option linter.unusedVariables false
set_option linter.unusedSectionVars false
namespace Go.Ab
open Go
/-- the cell o of a block -/
def cellO (x : Option Blk) (o : Nat) : Option AV := match x with | some (.cells _ c) => c[o]? | _ => none
theorem cellO_some {t : TypeId} {c : List AV} {o : Nat} : cellO (some (.cells t c)) o = c[o]? := id rfl
def cellsO (x : Option Blk) (o n : Nat) : Option AV := match x with | some (.cells _ c) => if o + n ≤ c.length then some (.agg ((c.drop o).take n)) else none | _ => none
theorem cellsO_some {t : TypeId} {c : List AV} {o n : Nat} : cellsO (some (.cells t c)) o n = if o + n ≤ c.length then some (.agg ((c.drop o).take n)) else none := id rfl
theorem take1 {l : List AV} {i : Nat} {x : AV} (h : l[i]? = some x) : (l.drop i).take 1 = [x] := by
  rw [List.take_one, List.head?_drop, h]; rfl
theorem ld1_ptr {H : Heap} {b o : Nat} : ld1 H (.ptr b o) = cellO (H.get b) o := by
  simp only [ld1, cellsAt, cellO]
  cases hb : H.get b with
  | none => rfl
  | some x =>
    cases x with
    | cells t c =>
      simp only
      by_cases h : o + 1 ≤ c.length
      · rw [if_pos h]
        have : c[o]? = some c[o] := List.getElem?_eq_getElem (by omega)
        rw [this, take1 this]
      · rw [if_neg h, List.getElem?_eq_none (by omega)]
    | _ => rfl
theorem ldA_none {H : Heap} {v : AV} : ldA H none v = ld1 H v := rfl
theorem ldA_ptr {H : Heap} {b o n : Nat} : ldA H (some n) (.ptr b o) = cellsO (H.get b) o n := by
  simp only [ldA, cellsAt, cellsO]
  cases H.get b with
  | none => rfl
  | some x => cases x <;> first | rfl | (simp only; split <;> rfl)
theorem Pt.ld {H : Heap} {v x : AV} {cs : List AV} (h : Pt H v (x :: cs)) : ld1 H v = some x := by
  have := h.cells (n := 1) (by simp)
  simp only [List.take_succ_cons, List.take_zero] at this
  simp only [ld1, this]
theorem Pt.lda {H : Heap} {v : AV} {cs : List AV} {n : Nat} (h : Pt H v cs) (hn : cs.length = n) : ldA H (some n) v = some (.agg cs) := by
  subst hn
  simp only [ldA, h.cells (Nat.le_refl _), List.take_length, Option.map]
theorem Pt.fa {H : Heap} {v : AV} {cs : List AV} (h : Pt H v cs) (off : Nat) (hk : off ≤ cs.length) : ∃ q, faA off v = some q ∧ Pt H q (cs.drop off) := by
  rcases h.drop off hk with ⟨a, r, rfl, h1⟩ | ⟨b, o, rfl, h1⟩
  · exact ⟨_, rfl, h1 _⟩
  · exact ⟨_, rfl, h1⟩
theorem Sv.lenl {H : Heap} {sz : Nat} {v : AV} {vs : List AV} (h : Sv H sz v vs) : lenlA v = some (.int .i64 vs.length) := by
  obtain ⟨_, ⟨a, cap, s, rfl, _⟩ | ⟨b, i, t', c, rfl, _⟩⟩ := h <;> rfl
theorem Sv.ix {H : Heap} {sz : Nat} {v x : AV} {vs : List AV} {k : IntKind} {i : Nat} (h : Sv H sz v vs) (hi : vs[i]? = some x) :
    ∃ q, ixA sz v (.int k i) = some q ∧ Pt H q x.cells := by
  have hlt : i < vs.length := (List.getElem?_eq_some_iff.1 hi).1
  obtain ⟨h0, ⟨a, cap, s, rfl, ha⟩ | ⟨b, j, t', c, rfl, h2, h3, h4, h5⟩⟩ := h
  · have hne : vs ≠ [] := by rintro rfl; simp at hi
    obtain ⟨ha1, hs1⟩ := ha hne
    cases a with
    | none => exact absurd ha1 (by simp)
    | some a => exact ⟨.rptr (a.add (i * sz)) x.cells, by simp [ixA, hi, hs1], .inl ⟨_, _, rfl, Nat.le_refl _, List.take_length⟩⟩
  · obtain ⟨g1, g2⟩ := flat_at vs i x h0 hi
    have hx := h0 x (List.mem_of_getElem? hi)
    have hm : (i + 1) * sz ≤ vs.length * sz := Nat.mul_le_mul_right sz hlt
    refine ⟨.ptr b (j * sz + i * sz), by simp [ixA, hlt], .inr ⟨b, _, t', c, rfl, h2, h3, ?_, ?_⟩⟩
    · rw [hx]
      rw [Nat.add_mul] at h4
      rw [Nat.succ_mul] at hm
      omega
    · rw [hx, ← List.drop_drop, ← g1, ← h5, List.drop_take, List.take_take]
      rw [Nat.succ_mul] at hm
      rw [Nat.min_eq_left (by omega)]
theorem ne_next {b : Nat} {H : Heap} (h : b < H.next) : (b = H.next) = False := eq_false (by omega)
theorem ne_next1 {b n : Nat} {H : Heap} (h : b < H.next) : (b = H.next + n) = False := eq_false (by omega)
theorem nx_l (n : Nat) : (n = n + 1) = False := eq_false (by omega)
theorem nx_r (n : Nat) : (n + 1 = n) = False := eq_false (by omega)
theorem nx_l2 (n : Nat) : (n = n + 2) = False := eq_false (by omega)
theorem nx_l3 (n : Nat) : (n = n + 3) = False := eq_false (by omega)
theorem nx_l4 (n : Nat) : (n = n + 4) = False := eq_false (by omega)
theorem nx_r2 (n : Nat) : (n + 2 = n) = False := eq_false (by omega)
theorem nx_r3 (n : Nat) : (n + 3 = n) = False := eq_false (by omega)
theorem nx_r4 (n : Nat) : (n + 4 = n) = False := eq_false (by omega)
theorem eqd (x y : Int) : (x == y) = decide (x = y) := by by_cases h : x = y <;> simp [h]
theorem ned (x y : Int) : (x != y) = !decide (x = y) := by by_cases h : x = y <;> simp [h]
theorem fa_ptr {off b o : Nat} : faA off (.ptr b o) = some (.ptr b (o + off)) := rfl
theorem fa_rptr {off : Nat} {a : Addr} {l : List AV} : faA off (.rptr a l) = some (.rptr (a.add off) (l.drop off)) := rfl
theorem fld_agg {off : Nat} {n : Option Nat} {l : List AV} : fldA off n (.agg l) = partK l off n := rfl
theorem part_some {off n : Nat} {l : List AV} : partK l off (some n) = some (.agg ((l.drop off).take n)) := rfl
theorem part_none {off : Nat} {l : List AV} : partK l off none = l[off]? := rfl
theorem pick_b {c : Bool} {a b : AV} : pickA (.bool c) a b = some (if c = true then a else b) := rfl
theorem ext_tup {i : Nat} {l : List AV} : extA i (.tup l) = l[i]? := rfl
theorem cvt_int {k k' : IntKind} {n : Int} : cvtA k (.int k' n) = some (.int k (k.wrap n)) := rfl
theorem lens_str {s : ByteArray} : lensA (.str s) = some (.int .i64 s.size) := rfl
theorem lenl_sl {b i n s : Nat} : lenlA (.sl b i n s) = some (.int .i64 n) := rfl
theorem lenl_rsl {a : Option Addr} {c s : Nat} {l : List AV} : lenlA (.rsl a c s l) = some (.int .i64 l.length) := rfl
theorem nz_ptr {b o : Nat} : nzA (.ptr b o) = some (.ptr b o) := rfl
theorem nz_rptr {a : Addr} {l : List AV} : nzA (.rptr a l) = some (.rptr a l) := rfl
theorem nz_func {f : FuncId} {a b : List AV} : nzA (.func f a b) = some (.func f a b) := rfl
theorem un_not {b : Bool} : unA .not (.bool b) = some (.bool !b) := rfl
theorem un_neg {k : IntKind} {n : Int} : unA .neg (.int k n) = some (.int k (k.wrap (0 - n))) := rfl
theorem box_eq {t : TypeId} {n : Nat} {H : Heap} {v : AV} : boxA t n H v = if v.cells.length = n && leafs v.cells then some (.ptr H.next 0, H.push (.cells t v.cells)) else none := rfl
theorem cells_agg {l : List AV} : (AV.agg l).cells = l := rfl
theorem cells_int {k : IntKind} {n : Int} : (AV.int k n).cells = [.int k n] := rfl
theorem cells_bool {b : Bool} : (AV.bool b).cells = [.bool b] := rfl
theorem cells_str {s : ByteArray} : (AV.str s).cells = [.str s] := rfl
theorem cells_sl {b i n s : Nat} : (AV.sl b i n s).cells = [.sl b i n s] := rfl
theorem cells_ptr {b o : Nat} : (AV.ptr b o).cells = [.ptr b o] := rfl
theorem cells_rsl {a : Option Addr} {c s : Nat} {l : List AV} : (AV.rsl a c s l).cells = [.rsl a c s l] := rfl
theorem cells_map {b : Option Nat} : (AV.map b).cells = [.map b] := rfl
section
variable {P : Program} {t : TypeId} {k : IntKind} {a b : Int}
theorem in_add : binA P .add t (.int k a) (.int k b) = some (.int k (k.wrap (a + b))) := by simp only [binA, if_true]; rfl
theorem in_sub : binA P .sub t (.int k a) (.int k b) = some (.int k (k.wrap (a - b))) := by simp only [binA, if_true]; rfl
theorem in_mul : binA P .mul t (.int k a) (.int k b) = some (.int k (k.wrap (a * b))) := by simp only [binA, if_true]; rfl
theorem in_quo (h : b ≠ 0) : binA P .quo t (.int k a) (.int k b) = some (.int k (k.wrap (a.tdiv b))) := by simp only [binA, if_true]; exact bi_quo h
theorem in_rem (h : b ≠ 0) : binA P .rem t (.int k a) (.int k b) = some (.int k (a.tmod b)) := by simp only [binA, if_true]; exact bi_rem h
theorem in_eql : binA P .eql t (.int k a) (.int k b) = some (.bool (decide (a = b))) := by simp only [binA, if_true, bi_eql, eqd]
theorem in_neq : binA P .neq t (.int k a) (.int k b) = some (.bool (!decide (a = b))) := by simp only [binA, if_true, bi_neq, ned]
theorem in_lss : binA P .lss t (.int k a) (.int k b) = some (.bool (decide (a < b))) := by simp only [binA, if_true]; rfl
theorem in_leq : binA P .leq t (.int k a) (.int k b) = some (.bool (decide (a ≤ b))) := by simp only [binA, if_true]; rfl
theorem in_gtr : binA P .gtr t (.int k a) (.int k b) = some (.bool (decide (b < a))) := by simp only [binA, if_true]; rfl
theorem in_geq : binA P .geq t (.int k a) (.int k b) = some (.bool (decide (b ≤ a))) := by simp only [binA, if_true]; rfl
theorem in_and : binA P .and t (.int k a) (.int k b) = binIntA .and k a b := by simp only [binA, if_true]
theorem in_or : binA P .or t (.int k a) (.int k b) = binIntA .or k a b := by simp only [binA, if_true]
theorem in_xor : binA P .xor t (.int k a) (.int k b) = binIntA .xor k a b := by simp only [binA, if_true]
theorem in_andNot : binA P .andNot t (.int k a) (.int k b) = binIntA .andNot k a b := by simp only [binA, if_true]
theorem in_shl {k' : IntKind} : binA P .shl t (.int k a) (.int k' b) = shiftA .shl k a b := by simp only [binA]
theorem in_shr {k' : IntKind} : binA P .shr t (.int k a) (.int k' b) = shiftA .shr k a b := by simp only [binA]
/-- the same bytes -/
def sEq (x y : ByteArray) : Bool := x.data.toList == y.data.toList
theorem sEq_iff {x y : ByteArray} : sEq x y = true ↔ x = y := by
  unfold sEq
  constructor
  · intro h
    cases x; cases y
    simp only [beq_iff_eq] at h
    congr 1
    exact Array.toList_inj.1 h
  · rintro rfl; simp
theorem sEq_dec {x y : ByteArray} : sEq x y = decide (x = y) := by
  by_cases h : x = y
  · rw [decide_eq_true h]; exact sEq_iff.2 h
  · rw [decide_eq_false h]
    cases e : sEq x y with
    | false => rfl
    | true => exact absurd (sEq_iff.1 e) h
theorem st_eql {x y : ByteArray} : binA P .eql t (.str x) (.str y) = some (.bool (decide (x = y))) := by simp only [binA, binStrA]; rw [← sEq_dec]; rfl
theorem st_neq {x y : ByteArray} : binA P .neq t (.str x) (.str y) = some (.bool (!decide (x = y))) := by simp only [binA, binStrA]; rw [← sEq_dec]; rfl
theorem bo_eql {x y : Bool} (h : P.underlying t = some .bool) : binA P .eql t (.bool x) (.bool y) = some (.bool (x == y)) := by simp only [binA, eqA, h]; rfl
theorem bo_neq {x y : Bool} (h : P.underlying t = some .bool) : binA P .neq t (.bool x) (.bool y) = some (.bool (!(x == y))) := by simp only [binA, eqA, h]; rfl
end
theorem rf_int {k : IntKind} {n : Int} : (AV.int k n).rf = true := rfl
theorem rf_bool {b : Bool} : (AV.bool b).rf = true := rfl
theorem rf_str {s : ByteArray} : (AV.str s).rf = true := rfl
theorem rf_nilp : AV.nilp.rf = true := rfl
theorem rf_nili : AV.nili.rf = true := rfl
theorem rf_nilf : AV.nilf.rf = true := rfl
theorem rf_rsl {a : Option Addr} {c s : Nat} {l : List AV} : (AV.rsl a c s l).rf = true := rfl
theorem rf_rptr {a : Addr} {l : List AV} : (AV.rptr a l).rf = true := rfl
theorem rf_agg {l : List AV} : (AV.agg l).rf = AV.rfL l := rfl
theorem rf_tup {l : List AV} : (AV.tup l).rf = AV.rfL l := rfl
theorem rf_func {f : FuncId} {a b : List AV} : (AV.func f a b).rf = (AV.rfL a && AV.rfL b) := rfl
theorem rf_ptr {b o : Nat} : (AV.ptr b o).rf = false := rfl
theorem rf_sl {b i n s : Nat} : (AV.sl b i n s).rf = false := rfl
end Go.Ab
/-! Loops of symbolic runs: a run that ends, and what holds then; a loop by an invariant with a bound. Conditions: in each statement. -/
set_option linter.unusedSimpArgs false
set_option linter.unusedVariables false
set_option linter.unusedSectionVars false
namespace Go.Ab
open Go
/-- it ends, without marks, and so -/
def Rn (r : Option (Ex × St)) (Q : Ex → List AV → Heap → Prop) : Prop := ∃ x e H, r = some (x, ⟨e, [], H⟩) ∧ Q x e H
theorem rn_some {x : Ex} {e : List AV} {H : Heap} {Q : Ex → List AV → Heap → Prop} : Rn (some (x, ⟨e, [], H⟩)) Q = Q x e H := by
  apply propext
  constructor
  · rintro ⟨x', e', H', h, hq⟩; cases h; exact hq
  · intro h; exact ⟨x, e, H, rfl, h⟩
theorem unch_ext {H H' : Heap} (h : Ext H H') : unch H H' = true := unch_iff.2 h.2.1
theorem unch_push {H K : Heap} {x : Blk} (h : unch H K = true) (hn : H.next ≤ K.next) : unch H (K.push x) = true :=
  unch_iff.2 fun b hb => by rw [Heap.get_push, if_neg (by omega)]; exact unch_iff.1 h b hb
theorem unch_set {H K : Heap} {c : Nat} {x : Blk} (h : unch H K = true) (hn : H.next ≤ c) : unch H (K.set c x) = true :=
  unch_iff.2 fun b hb => by rw [Heap.get_set, if_neg (by omega)]; exact unch_iff.1 h b hb
theorem unch_kill {H K : Heap} {c : Nat} (h : unch H K = true) (hn : H.next ≤ c) : unch H (K.kill c) = true :=
  unch_iff.2 fun b hb => by rw [Heap.get_kill, if_neg (by omega)]; exact unch_iff.1 h b hb
theorem le_s {a b : Nat} (h : a ≤ b) : a ≤ b + 1 := Nat.le_succ_of_le h
theorem setRange_all : ∀ (vs p q : List AV), vs.length = q.length → setRange (p ++ q) p.length vs = p ++ vs
  | [], p, q, h => by
    have : q = [] := List.length_eq_zero_iff.1 h.symm
    subst this; simp [setRange]
  | a :: vs, p, [], h => by simp at h
  | a :: vs, p, y :: q, h => by
    have e : (p ++ y :: q).set p.length a = (p ++ [a]) ++ q := by simp
    rw [setRange, e, show p.length + 1 = (p ++ [a]).length by simp, setRange_all vs (p ++ [a]) q (by simpa using h)]
    simp
/-- a value is stored into a variable just made -/
theorem st_new {lo n : Nat} {K : Heap} {t : TypeId} {z : List AV} {v : AV} (h : v.cells.length = n) (hz : z.length = n) (hl : leafs v.cells = true) (ho : lo ≤ K.next) :
    stA lo (K.push (.cells t z)) n (.ptr K.next 0) v = some ((K.push (.cells t z)).set K.next (.cells t v.cells)) := by
  have e : setRange z 0 v.cells = v.cells := by
    have := setRange_all v.cells [] z (by rw [h, hz])
    simpa using this
  simp only [stA, h, if_true, storeCellsA, Heap.get_push]
  simp only [ho, decide_true, hl, Bool.true_and, Bool.and_self, Nat.zero_add, h, hz, Nat.le_refl]
  simp only [if_true, e]
/-- a value is stored into a whole variable -/
theorem st_full {lo n : Nat} {t : TypeId} {z : List AV} {v : AV} (h : v.cells.length = n) (hz : z.length = n) (hl : leafs v.cells = true) (K : Heap) (b : Nat) (hk : K.get b = some (.cells t z)) (ho : lo ≤ b) :
    stA lo K n (.ptr b 0) v = some (K.set b (.cells t v.cells)) := by
  have e : setRange z 0 v.cells = v.cells := by
    have := setRange_all v.cells [] z (by rw [h, hz])
    simpa using this
  simp only [stA, h, if_true, storeCellsA, hk]
  simp only [ho, decide_true, hl, Bool.true_and, Bool.and_self, Nat.zero_add, h, hz, Nat.le_refl]
  simp only [if_true, e]
theorem ball_tt {x : Blk} : x.all (fun _ => true) = true := by cases x <;> simp [Blk.all, allL_true, all_true]
theorem al_ptr {p : Nat → Bool} {b o : Nat} : (AV.ptr b o).all p = p b := rfl
theorem al_sl {p : Nat → Bool} {b i n s : Nat} : (AV.sl b i n s).all p = p b := rfl
theorem al_int {p : Nat → Bool} {k : IntKind} {n : Int} : (AV.int k n).all p = true := rfl
theorem al_bool {p : Nat → Bool} {b : Bool} : (AV.bool b).all p = true := rfl
theorem al_str {p : Nat → Bool} {s : ByteArray} : (AV.str s).all p = true := rfl
theorem al_rsl {p : Nat → Bool} {a : Option Addr} {c s : Nat} {l : List AV} : (AV.rsl a c s l).all p = true := rfl
theorem al_rptr {p : Nat → Bool} {a : Addr} {l : List AV} : (AV.rptr a l).all p = true := rfl
theorem al_agg {p : Nat → Bool} {l : List AV} : (AV.agg l).all p = AV.allL p l := rfl
theorem al_tup {p : Nat → Bool} {l : List AV} : (AV.tup l).all p = AV.allL p l := rfl
theorem al_nil {p : Nat → Bool} : AV.allL p [] = true := rfl
theorem al_cons {p : Nat → Bool} {v : AV} {l : List AV} : AV.allL p (v :: l) = (v.all p && AV.allL p l) := rfl
theorem bl_cells {p : Nat → Bool} {t : TypeId} {c : List AV} : (Blk.cells t c).all p = AV.allL p c := rfl
theorem beq_l1 (n : Nat) : (n == n + 1) = false := beq_eq_false_iff_ne.2 (by omega)
theorem beq_r1 (n : Nat) : (n + 1 == n) = false := beq_eq_false_iff_ne.2 (by omega)
theorem beq_l2 (n : Nat) : (n == n + 1 + 1) = false := beq_eq_false_iff_ne.2 (by omega)
theorem beq_r2 (n : Nat) : (n + 1 + 1 == n) = false := beq_eq_false_iff_ne.2 (by omega)
theorem lt_s (n : Nat) : n < n + 1 := Nat.lt_succ_self n
theorem lt_s2 (n : Nat) : n < n + 1 + 1 := by omega
theorem rn_of {r r' : Option (Ex × St)} (hr : r' = r) {Q : Ex → List AV → Heap → Prop} (h : Rn r' Q) : Rn r Q := hr ▸ h
theorem Rn.imp {r : Option (Ex × St)} {Q Q' : Ex → List AV → Heap → Prop} (h : Rn r Q) (k : ∀ x e H, Q x e H → Q' x e H) : Rn r Q' := by
  obtain ⟨x, e, H, h1, h2⟩ := h; exact ⟨x, e, H, h1, k x e H h2⟩
@[congr] theorem Rn_congr {r r' : Option (Ex × St)} {Q : Ex → List AV → Heap → Prop} (h : r = r') : Rn r Q = Rn r' Q := by rw [h]
/-- behind a round -/
def Lp (n i : Nat) (Inv : Nat → List AV → Heap → Prop) (Q : Ex → List AV → Heap → Prop) : Ex → List AV → Heap → Prop
  | .normal, e, H => i < n ∧ Inv (i + 1) e H
  | x, e, H => Q x e H
section
variable {n i k : Nat} {Inv : Nat → List AV → Heap → Prop} {Q : Ex → List AV → Heap → Prop} {e : List AV} {H : Heap}
theorem lp_normal : Lp n i Inv Q .normal e H = (i < n ∧ Inv (i + 1) e H) := rfl
theorem lp_exit : Lp n i Inv Q (.exit k) e H = Q (.exit k) e H := rfl
theorem lp_ret : Lp n i Inv Q .ret e H = Q .ret e H := rfl
theorem loop_rn [E : Env] {P : Program} {cx : Ctx} {lo : Nat} {b : Code} (n : Nat) (Inv : Nat → List AV → Heap → Prop) (Q : Ex → List AV → Heap → Prop)
    (step : ∀ i e H, i ≤ n → Inv i e H → Rn (om P cx lo b ⟨e, [], H⟩) (Lp n i Inv Q)) :
    ∀ i e H, i ≤ n → Inv i e H → Rn (om P cx lo (.loop b) ⟨e, [], H⟩) Q := by
  have key : ∀ d i e H, n - i = d → i ≤ n → Inv i e H → Rn (om P cx lo (.loop b) ⟨e, [], H⟩) Q := by
    intro d
    induction d with
    | zero =>
      intro i e H hd hi h
      obtain ⟨x, e', H', h1, h2⟩ := step i e H hi h
      rw [oy_loop, h1]
      cases x with
      | normal => exact absurd h2.1 (by omega)
      | exit k => exact ⟨_, _, _, rfl, h2⟩
      | ret => exact ⟨_, _, _, rfl, h2⟩
      | panic v => exact ⟨_, _, _, rfl, h2⟩
    | succ d ih =>
      intro i e H hd hi h
      obtain ⟨x, e', H', h1, h2⟩ := step i e H hi h
      rw [oy_loop, h1]
      cases x with
      | normal => rw [nxt_normal, ox]; exact ih (i + 1) e' H' (by omega) h2.1 h2.2
      | exit k => exact ⟨_, _, _, rfl, h2⟩
      | ret => exact ⟨_, _, _, rfl, h2⟩
      | panic v => exact ⟨_, _, _, rfl, h2⟩
  exact fun i e H => key _ i e H rfl
end
end Go.Ab
/-! Sets of strings kept in a map. Conditions: in each statement. -/
set_option linter.unusedSimpArgs false
set_option linter.unusedVariables false
set_option linter.unusedSectionVars false
namespace Go.Ab
open Go
/-- a string of a list -/
def sIn (s : ByteArray) (l : List ByteArray) : Bool := l.any fun a => sEq s a
theorem sIn_iff {s : ByteArray} {l : List ByteArray} : sIn s l = true ↔ s ∈ l := by
  unfold sIn
  rw [List.any_eq_true]
  constructor
  · rintro ⟨a, ha, h⟩; rw [sEq_iff.1 h]; exact ha
  · intro h; exact ⟨s, h, sEq_iff.2 rfl⟩
/-- entries: these strings, each true -/
def Seen (es : List (AV × AV × Nat)) (l : List ByteArray) : Prop := es.map (fun p => (p.1, p.2.1)) = l.map fun s => (AV.str s, AV.bool true)
theorem seen_nil : Seen [] [] := rfl
theorem Seen.snoc {es : List (AV × AV × Nat)} {l : List ByteArray} {s : ByteArray} {n : Nat} (h : Seen es l) : Seen (es ++ [(.str s, .bool true, n)]) (l ++ [s]) := by
  unfold Seen at h ⊢
  simp [h]
theorem find_seen {s : ByteArray} : ∀ (es : List (AV × AV × Nat)) (l : List ByteArray) (i : Nat), Seen es l →
    (sIn s l = false → findA (.str s) es i = some none) ∧ (sIn s l = true → ∃ j n, findA (.str s) es i = some (some (j, .bool true, n)))
  | [], l, i, h => by
    have : l = [] := by cases l with | nil => rfl | cons a l => simp [Seen] at h
    subst this
    exact ⟨fun _ => rfl, fun h => by simp [sIn] at h⟩
  | (k, v, n) :: es, l, i, h => by
    cases l with
    | nil => simp [Seen] at h
    | cons a l =>
      simp only [Seen, List.map_cons, List.cons.injEq, Prod.mk.injEq] at h
      obtain ⟨⟨rfl, rfl⟩, h⟩ := h
      obtain ⟨h1, h2⟩ := find_seen es l (i + 1) h
      by_cases e : s = a
      · subst e
        have e1 : (s.data.toList == s.data.toList) = true := by simp
        have : findA (.str s) ((.str s, .bool true, n) :: es) i = some (some (i, .bool true, n)) := by simp only [findA, eqLeafA, e1]
        exact ⟨fun h => by simp [sIn, sEq_iff.2 rfl] at h, fun _ => ⟨i, n, this⟩⟩
      · have e1 : (s.data.toList == a.data.toList) = false := by
          have := sEq_dec (x := s) (y := a)
          rw [decide_eq_false e] at this
          exact this
        have : findA (.str s) ((.str a, .bool true, n) :: es) i = findA (.str s) es (i + 1) := by simp only [findA, eqLeafA, e1]
        rw [this]
        have e2 : sIn s (a :: l) = sIn s l := by
          have : sEq s a = false := by rw [sEq_dec]; exact decide_eq_false e
          simp [sIn, this]
        rw [e2]
        exact ⟨h1, h2⟩
theorem lookup_seen {P : Program} (t : TypeId) {kt et : TypeId} {s : ByteArray} {es : List (AV × AV × Nat)} {l : List ByteArray} {K : Heap} {b cl : Nat} (hu : P.underlying t = some (.map kt et)) (hz : zeroA P et = some (.bool false)) (hs : Seen es l)
    (hk : K.get b = some (.map es cl)) (hkt : P.underlying kt = some .string) : lookupA P K t (.map (some b)) (.str s) false = some (.bool (sIn s l)) := by
  have hf : keyFits P kt (.str s) = true := by simp only [keyFits, hkt]
  obtain ⟨h1, h2⟩ := find_seen (s := s) es l 0 hs
  cases hc : sIn s l with
  | false => simp only [lookupA, hu, hk, hz, hf, if_true, h1 hc, Bool.false_eq_true, if_false]
  | true =>
    obtain ⟨j, n, h3⟩ := h2 hc
    simp only [lookupA, hu, hk, hz, hf, if_true, h3, Bool.false_eq_true, if_false]
theorem update_seen {P : Program} (t : TypeId) {kt et : TypeId} {s : ByteArray} {es : List (AV × AV × Nat)} {l : List ByteArray} {K : Heap} {b cl lo : Nat} (hu : P.underlying t = some (.map kt et)) (hs : Seen es l) (hc : sIn s l = false) (hlo : lo ≤ b)
    (hk : K.get b = some (.map es cl)) (hkt : P.underlying kt = some .string) : mapUpdateA P lo K t (.map (some b)) (.str s) (.bool true) = some (K.set b (.map (es ++ [(.str s, .bool true, cl)]) (cl + 1))) := by
  have hf : keyFits P kt (.str s) = true := by simp only [keyFits, hkt]
  obtain ⟨h1, h2⟩ := find_seen (s := s) es l 0 hs
  simp only [mapUpdateA, hu, hk, hlo, decide_true, hf, Bool.true_and, if_true, h1 hc, Bool.and_self]
end Go.Ab
/-! Appending onto an own slice; copies. Conditions: in each statement. -/
set_option linter.unusedSimpArgs false
set_option linter.unusedVariables false
set_option linter.unusedSectionVars false
namespace Go.Ab
open Go
theorem Sv.elems {H : Heap} {sz : Nat} {v : AV} {vs : List AV} (h : Sv H sz v vs) : elemsA H sz v = some (vs.flatMap AV.cells) ∧ lenA H v = some vs.length := by
  obtain ⟨h0, ⟨a, cap, s, rfl, hs⟩ | ⟨b, i, t, c, rfl, h2, h3, h4, h5⟩⟩ := h
  · refine ⟨?_, rfl⟩
    by_cases hn : vs = []
    · subst hn; simp [elemsA]
    · simp [elemsA, (hs hn).2]
  · refine ⟨?_, rfl⟩
    simp only [elemsA, h3, decide_true, Bool.true_and]
    rw [← Nat.add_mul, if_pos (by simpa using h4), h5]
theorem flat_len {sz : Nat} : ∀ (vs : List AV), (∀ x ∈ vs, x.cells.length = sz) → (vs.flatMap AV.cells).length = vs.length * sz
  | [], _ => by simp
  | x :: vs, h => by
    rw [List.flatMap_cons, List.length_append, h x (by simp), flat_len vs (fun y hy => h y (by simp [hy])), List.length_cons, Nat.succ_mul, Nat.add_comm]
theorem leafs_flat : ∀ (vs : List AV), (∀ x ∈ vs, leafs x.cells = true) → leafs (vs.flatMap AV.cells) = true
  | [], _ => rfl
  | x :: vs, h => by
    have h1 := h x (by simp)
    have h2 := leafs_flat vs (fun y hy => h y (by simp [hy]))
    simp only [leafs] at h1 h2 ⊢
    rw [List.flatMap_cons, List.all_append, h1, h2]; rfl
/-- what an append onto an own slice comes to -/
def appR (e : TypeId) (b m sz : Nat) (c : List AV) (vs : List AV) (H : Heap) : AV × Heap :=
  if vs = [] then (.sl b 0 m sz, H) else (.sl H.next 0 (m + vs.length) sz, (H.kill b).push (.cells e (c ++ vs.flatMap AV.cells)))
theorem append_own {P : Program} {lo b m sz : Nat} {T e : TypeId} {i : TypeInfo} {z x : AV} {c vs : List AV} {H : Heap} (hu : P.underlying T = some (.slice e)) (hi : P.info? e = some i) (hz : zeroA P e = some z) (hsz : i.size = sz) (hz2 : z.cells.length = sz) (hpos : 0 < sz)
    (hce : P.cellsOf e = sz) (hx : Sv H sz x vs) (hlf : ∀ v ∈ vs, leafs v.cells = true) (hb : H.get b = some (.cells e c)) (hc : c.length = m * sz) (hlo : lo ≤ b) (hfit : appendFits i m vs.length = true) :
    appendA P lo H (some T) (some T) (.sl b 0 m sz) x = some (appR e b m sz c vs H) := by
  obtain ⟨h1, h2⟩ := hx.elems
  have hok : appendOk i z (vs.flatMap AV.cells) vs.length = true := by
    simp only [appendOk, hsz, hz2, flat_len vs hx.1, leafs_flat vs hlf, hpos, decide_true, Bool.and_self]
  have hsz' : sizeA P e = some sz := by unfold sizeA; rw [hi]; simp [hsz]
  simp only [appendA, Option.bind_some, hu, srcOk, Bool.not_true, Bool.false_eq_true, if_false, hi, hz, hce, h1, h2, hok, if_true, appendTo]
  by_cases hn : vs.length = 0
  · have : vs = [] := List.length_eq_zero_iff.1 hn
    subst this
    have hf : slFits P H b 0 m sz = true := by
      simp only [slFits, hb, hsz', decide_true, Bool.true_and, Nat.zero_add]
      simp [hpos, hc]
    simp [hf, appR]
  · have hne : vs ≠ [] := fun h => hn (by rw [h]; rfl)
    simp only [hn, if_false, hb, hlo, decide_true, hsz, hc, Bool.and_self, hfit, if_true, appR, hne]
theorem appR_ext {e : TypeId} {b m sz : Nat} {c vs : List AV} {H H0 : Heap} (h : Ext H0 H) (hb : H0.next ≤ b) : Ext H0 (appR e b m sz c vs H).2 := by
  unfold appR
  split
  · exact h
  · exact (h.kill hb).push _
/-- a leaf is stored into a cell -/
theorem st_cell {lo : Nat} {v : AV} (h : v.cells = [v]) (hl : leafA v = true) (K : Heap) (b o : Nat) (t : TypeId) (c : List AV) (hk : K.get b = some (.cells t c)) (hc : o < c.length) (ho : lo ≤ b) :
    stA lo K 1 (.ptr b o) v = some (K.set b (.cells t (c.set o v))) := by
  have hlf : leafs [v] = true := by simp [leafs, hl]
  simp only [stA, h, List.length_cons, List.length_nil, Nat.zero_add, if_true, storeCellsA, hk, ho, hlf, decide_true, Bool.true_and, setRange, Bool.and_self]
  rw [if_pos (decide_eq_true (Nat.succ_le_of_lt hc))]
theorem rf_all {p : Nat → Bool} : ∀ (v : AV), v.rf = true → v.all p = true := by
  intro v
  refine (?_ : ∀ v : AV, v.rf = true → v.all p = true) v
  exact rfall p
where
  rfall (p : Nat → Bool) : ∀ v : AV, v.rf = true → v.all p = true
  | .bool _, _ | .int _ _, _ | .str _, _ | .nilp, _ | .nilf, _ | .nili, _ | .map none, _ | .rptr _ _, _ | .rsl _ _ _ _, _ => rfl
  | .ptr _ _, h | .sl _ _ _ _, h | .map (some _), h | .yieldf _, h => by simp [AV.rf] at h
  | .func _ a b, h => by simp only [AV.rf, Bool.and_eq_true] at h; simp only [AV.all, rfallL p a h.1, rfallL p b h.2, Bool.and_self]
  | .iface _ v, h => by simp only [AV.rf] at h; simp only [AV.all]; exact rfall p v h
  | .agg l, h | .tup l, h => by simp only [AV.rf] at h; simp only [AV.all]; exact rfallL p l h
  rfallL (p : Nat → Bool) : ∀ l : List AV, AV.rfL l = true → AV.allL p l = true
  | [], _ => rfl
  | v :: vs, h => by simp only [AV.rfL, Bool.and_eq_true] at h; simp only [AV.allL, rfall p v h.1, rfallL p vs h.2, Bool.and_self]
end Go.Ab
/-! Loud regions: which blocks are hidden; appends. Conditions: in each statement. -/
set_option linter.unusedSimpArgs false
set_option linter.unusedVariables false
set_option linter.unusedSectionVars false
namespace Go.Ab
open Go
def Low (b : Nat) (l : List Nat) : Prop := ∀ x ∈ l, b < x
theorem low_nil {b : Nat} : Low b [] = True := eq_true (by intro x h; simp at h)
theorem low_cons {b x : Nat} {l : List Nat} : Low b (x :: l) = (b < x ∧ Low b l) := by simp [Low]
def LowU (W : Nat → List Nat) (b : Nat) : List Nat → Prop
  | [] => True
  | j :: us => Low b (W j) ∧ LowU W b us
def LowK (b : Nat) : List (Nat × Nat × Nat) → Prop
  | [] => True
  | q :: l => b < q.2.1 ∧ LowK b l
theorem lowU_nil {W : Nat → List Nat} {b : Nat} : LowU W b [] = True := rfl
theorem lowU_cons {W : Nat → List Nat} {b j : Nat} {us : List Nat} : LowU W b (j :: us) = (Low b (W j) ∧ LowU W b us) := rfl
theorem lowK_nil {b : Nat} : LowK b [] = True := rfl
theorem lowK_cons {b j a n : Nat} {l : List (Nat × Nat × Nat)} : LowK b ((j, a, n) :: l) = (b < a ∧ LowK b l) := rfl
theorem LowU.all {W : Nat → List Nat} {b : Nat} : ∀ {us : List Nat}, LowU W b us → ∀ x ∈ us.flatMap W, b < x
  | [], _, x, h => by simp at h
  | j :: us, k, x, h => by
    rw [List.flatMap_cons, List.mem_append] at h
    rcases h with h | h
    · exact k.1 x h
    · exact LowU.all k.2 x h
theorem LowK.all {b : Nat} : ∀ {l : List (Nat × Nat × Nat)}, LowK b l → ∀ q ∈ l, b < q.2.1
  | [], _, x, h => by simp at h
  | q :: l, k, x, h => by
    rcases List.mem_cons.1 h with h | h
    · subst h; exact k.1
    · exact LowK.all k.2 x h
section
variable {P : Program} {lo i j n a m b : Nat} {W : Nat → List Nat} {us bs : List Nat} {kept : List (Nat × Nat × Nat)} {H V : Heap} {v : AV}
theorem hid2_low (h1 : LowU W b us) (h2 : LowK b kept) : b ∉ hid2 W us bs n kept := by
  intro h
  have h := (List.mem_filter.1 h).1
  rcases List.mem_append.1 h with h | h
  · exact Nat.lt_irrefl _ (h1.all b h)
  · obtain ⟨q, hq, h⟩ := List.mem_flatMap.1 h
    split at h
    · simp at h
    · have := (List.mem_range'_1.1 h).1
      have := h2.all q hq
      omega
theorem con_low (h1 : LowU W b us) (h2 : LowK b kept) : (hid2 W us bs n kept).contains b = false := by
  simpa using hid2_low (bs := bs) (n := n) h1 h2
theorem kill_low (h1 : LowU W b us) (h2 : LowK b kept) : (killL H (hid2 W us bs n kept)).get b = H.get b := by
  rw [killL_get, if_neg (hid2_low h1 h2)]
theorem con_new : (hid2 W us bs n kept).contains n = false := by
  have : n ∉ hid2 W us bs n kept := fun h => by have := (List.mem_filter.1 h).2; simp at this
  simpa using this
theorem hid2_u (h : W j = []) : hid2 W (j :: us) bs n kept = hid2 W us bs n kept := by simp [hid2, List.flatMap_cons, h]
theorem hid2_k (h : bs.contains j = true) : hid2 W [] bs n ((j, a, m) :: kept) = hid2 W [] bs n kept := by simp [hid2, List.flatMap_cons] at h ⊢; simp [h]
theorem hid2_k' (h : bs.contains j = true) : hid2 W us bs n ((j, a, m) :: kept) = hid2 W us bs n kept := by simp [hid2, List.flatMap_cons] at h ⊢; simp [h]
theorem hid2_n : hid2 W [] bs n [] = [] := rfl
theorem kv_lok [E : Env] {rest : List (O × List Nat × List Nat)} {e : List AV} {d : Option Nat} (h : LOk [] (W i) H V v) : KV P lo W i rest e d [] H kept v V = L2 P lo W (i + 1) rest (putE e d v) V ((i, H.next, V.next - H.next) :: kept) := by
  rw [kv_nil h]
  by_cases hn : V.next = H.next
  · rw [if_pos hn, hn, Nat.sub_self]
    exact (L2_zero (j := i) (a := H.next) rest (i + 1) _ V []).symm
  · rw [if_neg hn]
end
theorem lok_app {e : TypeId} {b m sz : Nat} {c vs : List AV} {H : Heap} (hb : b < H.next) : LOk [] [b] H (appR e b m sz c vs H).2 (appR e b m sz c vs H).1 := by
  have blk : ∀ x : Blk, x.all (fun b => !([] : List Nat).contains b) = true := fun x => by cases x <;> simp [Blk.all, allL_true, all_true]
  unfold appR
  split
  · refine ⟨Nat.le_refl _, id, by have := all_true (AV.sl b 0 m sz); simpa using this, fun x hx => ⟨by simp at hx; omega, rfl⟩, fun _ _ _ _ => rfl, fun c x _ _ => blk x⟩
  · refine ⟨by simp [Heap.kill, Heap.setO, Heap.push], fun h c x hx => ?_, by have := all_true (AV.sl H.next 0 (m + vs.length) sz); simpa using this, fun x hx => ⟨by simp at hx; omega, rfl⟩, fun x hx hw _ => ?_, fun c x _ _ => blk x⟩
    · rw [Heap.get_push] at hx
      have hn : (H.kill b).next = H.next := rfl
      split at hx
      · simp only [Heap.next_push]; omega
      · rw [Heap.get_kill] at hx
        split at hx
        · cases hx
        · have := h c x hx; simp only [Heap.next_push]; omega
    · have hn : (H.kill b).next = H.next := rfl
      rw [Heap.get_push, if_neg (by omega), Heap.get_kill, if_neg (by simpa using hw)]
/-- an append onto nil -/
theorem append_nil {P : Program} {lo a' s' sz : Nat} {T e : TypeId} {i : TypeInfo} {z x : AV} {vs : List AV} {H : Heap} (hu : P.underlying T = some (.slice e)) (hi : P.info? e = some i) (hz : zeroA P e = some z) (hsz : i.size = sz) (hz2 : z.cells.length = sz) (hpos : 0 < sz)
    (hce : P.cellsOf e = sz) (hx : Sv H sz x vs) (hlf : ∀ v ∈ vs, leafs v.cells = true) (hne : vs ≠ []) (hfit : appendFits i 0 vs.length = true) :
    appendA P lo H (some T) (some T) (.rsl none a' s' []) x = some (.sl H.next 0 vs.length sz, H.push (.cells e (vs.flatMap AV.cells))) := by
  obtain ⟨h1, h2⟩ := hx.elems
  have hok : appendOk i z (vs.flatMap AV.cells) vs.length = true := by
    simp only [appendOk, hsz, hz2, flat_len vs hx.1, leafs_flat vs hlf, hpos, decide_true, Bool.and_self]
  have hn : vs.length ≠ 0 := fun h => hne (List.length_eq_zero_iff.1 h)
  simp only [appendA, Option.bind_some, hu, srcOk, Bool.not_true, Bool.false_eq_true, if_false, hi, hz, hce, h1, h2, hok, if_true, appendTo, hn, hfit, hsz]
end Go.Ab
/-! The steps of the interpreter, gathered into one fact for simp. Conditions: in each part. -/
namespace Go.Ab
open Go
theorem sr1 :
    (type_of% @Go.Ab.ox) ∧
    (type_of% @Go.Ab.ou) ∧
    (type_of% @Go.Ab.oy_seq) ∧
    (type_of% @Go.Ab.oy_ret) ∧
    (type_of% @Go.Ab.oy_exit) ∧
    (type_of% @Go.Ab.oy_skip) ∧
    (type_of% @Go.Ab.oy_cond) ∧
    (type_of% @Go.Ab.oy_block) ∧
    (type_of% @Go.Ab.stl_some) ∧
    (type_of% @Go.Ab.dre_some) ∧
    (type_of% @Go.Ab.nxt_normal) ∧
    (type_of% @Go.Ab.nxt_ret) ∧
    (type_of% @Go.Ab.nxt_exit) ∧
    (type_of% @Go.Ab.blk_exit) ∧
    (type_of% @Go.Ab.blk_normal) ∧
    (type_of% @Go.Ab.blk_ret) ∧
    (type_of% @Go.Ab.reg_some) ∧
    (type_of% @Go.Ab.cnd_true) ∧
    (type_of% @Go.Ab.cnd_false) ∧
    (type_of% @Go.Ab.opr_some) ∧
    (type_of% @Go.Ab.fin_ret) ∧
    (type_of% @Go.Ab.fin_normal) ∧
    (type_of% @Go.Ab.finv_some) ∧
    (type_of% @Go.Ab.r2_nil) ∧
    (type_of% @Go.Ab.r2_op) ∧
    (type_of% @Go.Ab.r2_gu) ∧
    (type_of% @Go.Ab.k2_s) ∧
    (type_of% @Go.Ab.k2_n) ∧
    (type_of% @Go.Ab.u2) ∧
    (type_of% @Go.Ab.v2_s) ∧
    (type_of% @Go.Ab.v2_n) ∧
    (type_of% @Go.Ab.s2_nil) ∧
    (type_of% @Go.Ab.s2_op) ∧
    (type_of% @Go.Ab.s2_gu) ∧
    (type_of% @Go.Ab.k3_q) ∧
    (type_of% @Go.Ab.k3_r) ∧
    (type_of% @Go.Ab.k3_qn) ∧
    (type_of% @Go.Ab.k3_rn) ∧
    (type_of% @Go.Ab.u3) ∧
    (type_of% @Go.Ab.v3_s) ∧
    (type_of% @Go.Ab.v3_n) ∧
    (type_of% @Go.Ab.k4) ∧
    (type_of% @Go.Ab.same_some) ∧
    (type_of% @Go.Ab.put_some) ∧
    (type_of% @Go.Ab.kr_undef) ∧
    (type_of% @Go.Ab.gu_tt) ∧
    (type_of% @Go.Ab.gu_ff) ∧
    (type_of% @Go.Ab.gu_tf) ∧
    (type_of% @Go.Ab.gu_ft) ∧
    (type_of% @Go.Ab.gu_n) ∧
    (type_of% @Go.Ab.pick_b) ∧
    (type_of% @Go.Ab.ext_tup) ∧
    (type_of% @Go.Ab.fa_ptr) ∧
    (type_of% @Go.Ab.fa_rptr) ∧
    (type_of% @Go.Ab.fld_agg) ∧
    (type_of% @Go.Ab.part_some) ∧
    (type_of% @Go.Ab.part_none) ∧
    (type_of% @Go.Ab.ldA_none) ∧
    (type_of% @Go.Ab.ld1_ptr) ∧
    (type_of% @Go.Ab.ldA_ptr) ∧
    (type_of% @Go.Ab.cellO_some) ∧
    (type_of% @Go.Ab.cellsO_some) ∧
    (type_of% @Go.Ab.box_eq) ∧
    (type_of% @Go.Ab.cells_agg) ∧
    (type_of% @Go.Ab.cells_int) ∧
    (type_of% @Go.Ab.cells_bool) ∧
    (type_of% @Go.Ab.cells_str) ∧
    (type_of% @Go.Ab.cells_sl) ∧
    (type_of% @Go.Ab.cells_ptr) ∧
    (type_of% @Go.Ab.cells_rsl) ∧
    (type_of% @Go.Ab.cells_map) ∧
    (type_of% @Go.Ab.nz_ptr) ∧
    (type_of% @Go.Ab.nz_rptr) ∧
    (type_of% @Go.Ab.nz_func) ∧
    (type_of% @Go.Ab.lens_str) ∧
    (type_of% @Go.Ab.lenl_sl) ∧
    (type_of% @Go.Ab.lenl_rsl) ∧
    (type_of% @Go.Ab.cvt_int) ∧
    (type_of% @Go.Ab.gd_getD) ∧
    (type_of% @Go.Ab.gd_eq) ∧
    (type_of% @Go.Ab.gd_ne) ∧
    (type_of% @Go.Ab.yb_bool) ∧
    (type_of% @Go.Ab.yb_undef) ∧
    (type_of% @Go.Ab.in_add) ∧
    (type_of% @Go.Ab.in_sub) ∧
    (type_of% @Go.Ab.in_mul) ∧
    (type_of% @Go.Ab.in_eql) ∧
    (type_of% @Go.Ab.in_neq) ∧
    (type_of% @Go.Ab.in_lss) ∧
    (type_of% @Go.Ab.in_leq) ∧
    (type_of% @Go.Ab.in_gtr) ∧
    (type_of% @Go.Ab.in_geq) ∧
    (type_of% @Go.Ab.in_and) ∧
    (type_of% @Go.Ab.in_or) ∧
    (type_of% @Go.Ab.in_xor) ∧
    (type_of% @Go.Ab.in_andNot) ∧
    (type_of% @Go.Ab.in_shl) ∧
    (type_of% @Go.Ab.in_shr) ∧
    (type_of% @Go.Ab.st_eql) ∧
    (type_of% @Go.Ab.st_neq) ∧
    (type_of% @Go.Ab.un_not) ∧
    (type_of% @Go.Ab.un_neg) ∧
    (type_of% @Go.Ab.rf_int) ∧
    (type_of% @Go.Ab.rf_bool) ∧
    (type_of% @Go.Ab.rf_str) ∧
    (type_of% @Go.Ab.rf_nilp) ∧
    (type_of% @Go.Ab.rf_nili) ∧
    (type_of% @Go.Ab.rf_nilf) ∧
    (type_of% @Go.Ab.rf_rsl) ∧
    (type_of% @Go.Ab.rf_rptr) ∧
    (type_of% @Go.Ab.rf_agg) ∧
    (type_of% @Go.Ab.rf_tup) ∧
    (type_of% @Go.Ab.rf_func) ∧
    (type_of% @Go.Ab.rf_ptr) ∧
    (type_of% @Go.Ab.rf_sl) ∧
    (type_of% @Go.Ab.Heap.next_push) ∧
    (type_of% @Go.Ab.Heap.next_set) ∧
    (type_of% @Go.Ab.Heap.next_kill) ∧
    (type_of% @Go.Ab.rn_some) ∧
    (type_of% @Go.Ab.lp_normal) ∧
    (type_of% @Go.Ab.lp_exit) ∧
    (type_of% @Go.Ab.lp_ret) ∧
    (type_of% @and_true) ∧
    (type_of% @true_and) ∧
    (type_of% @and_self) ∧
    (type_of% @true_or) ∧
    (type_of% @or_true) ∧
    (type_of% @false_or) ∧
    (type_of% @or_false) ∧
    (type_of% @false_and) ∧
    (type_of% @and_false) ∧
    (type_of% @Go.Ab.AV.int.injEq) ∧
    (type_of% @Go.Ab.AV.bool.injEq) ∧
    (type_of% @not_false_eq_true) ∧
    (type_of% @decide_true) ∧
    (type_of% @decide_false) ∧
    (type_of% @Bool.false_eq_true) ∧
    (type_of% @Bool.not_true) ∧
    (type_of% @Bool.not_false) ∧
    (type_of% @Bool.true_and) ∧
    (type_of% @Bool.and_true) ∧
    (type_of% @Bool.and_self) ∧
    (type_of% @Bool.false_and) ∧
    (type_of% @Bool.and_false) ∧
    (type_of% @Bool.true_or) ∧
    (type_of% @Bool.or_true) ∧
    (type_of% @Bool.false_or) ∧
    (type_of% @Bool.or_false) ∧
    (type_of% @Bool.or_self) ∧
    (type_of% @Go.Ab.unch_self) ∧
    (type_of% @Go.Ab.kv_ext) ∧
    (type_of% @Go.Ab.unch_push) ∧
    (type_of% @Go.Ab.unch_set) ∧
    (type_of% @Go.Ab.unch_kill) ∧
    (type_of% @Go.Ab.le_s) ∧
    (type_of% @Nat.le_refl) ∧
    (type_of% @Go.Ab.st_new) ∧
    (type_of% @Go.Ab.l2_nil) ∧
    (type_of% @Go.Ab.l2_gu) ∧
    (type_of% @Go.Ab.l2_op) ∧
    (type_of% @Go.Ab.ul_free) ∧
    (type_of% @Go.Ab.ul_view) ∧
    (type_of% @Go.Ab.vl_s) ∧
    (type_of% @Go.Ab.vl_n) ∧
    (type_of% @Go.Ab.kf_same) ∧
    (type_of% @Go.Ab.kf_push) ∧
    (type_of% @Go.Ab.kv_kill) ∧
    (type_of% @Go.Ab.kv_same) ∧
    (type_of% @Go.Ab.kv_nil) ∧
    (type_of% @Go.Ab.lok_set) ∧
    (type_of% @Nat.lt_irrefl) ∧
    (type_of% @Go.Ab.killL_nil) ∧
    (type_of% @Go.Ab.all_nil) ∧
    (type_of% @Go.Ab.ball_nil) ∧
    (type_of% @Go.Ab.putE_some) ∧
    (type_of% @Go.Ab.putE_none) ∧
    (type_of% @Go.Ab.al_ptr) ∧
    (type_of% @Go.Ab.al_sl) ∧
    (type_of% @Go.Ab.al_int) ∧
    (type_of% @Go.Ab.al_bool) ∧
    (type_of% @Go.Ab.al_str) ∧
    (type_of% @Go.Ab.al_rsl) ∧
    (type_of% @Go.Ab.al_rptr) ∧
    (type_of% @Go.Ab.al_agg) ∧
    (type_of% @Go.Ab.al_tup) ∧
    (type_of% @Go.Ab.al_nil) ∧
    (type_of% @Go.Ab.al_cons) ∧
    (type_of% @Go.Ab.bl_cells) ∧
    (type_of% @Go.Ab.beq_l1) ∧
    (type_of% @Go.Ab.beq_r1) ∧
    (type_of% @Go.Ab.beq_l2) ∧
    (type_of% @Go.Ab.beq_r2) ∧
    (type_of% @Go.Ab.lt_s) ∧
    (type_of% @Go.Ab.lt_s2) ∧
    (type_of% @List.range'_zero) ∧
    (type_of% @List.range'_succ) ∧
    (type_of% @Go.Ab.fr_mv) ∧
    (type_of% @Go.Ab.fr_pick) ∧
    (type_of% @Go.Ab.fr_new) ∧
    (type_of% @Go.Ab.fr_box) ∧
    (type_of% @Go.Ab.fr_nz) ∧
    (type_of% @Go.Ab.fr_bin) ∧
    (type_of% @Go.Ab.fr_un) ∧
    (type_of% @Go.Ab.fr_fa) ∧
    (type_of% @Go.Ab.fr_fld) ∧
    (type_of% @Go.Ab.fr_ixs) ∧
    (type_of% @Go.Ab.fr_six) ∧
    (type_of% @Go.Ab.fr_ext) ∧
    (type_of% @Go.Ab.fr_mkf) ∧
    (type_of% @Go.Ab.fr_bld) ∧
    (type_of% @Go.Ab.fr_bsl) ∧
    (type_of% @Go.Ab.fr_ld) ∧
    (type_of% @Go.Ab.fr_st) ∧
    (type_of% @Go.Ab.fr_lens) ∧
    (type_of% @Go.Ab.fr_lenl) ∧
    (type_of% @Go.Ab.fr_call) ∧
    (type_of% @Go.Ab.fr_callv) ∧
    (type_of% @Go.Ab.fr_cvt) ∧
    (type_of% @Go.Ab.fr_raw) ∧
    (type_of% @Go.Ab.all_true) ∧
    (type_of% @Go.Ab.allL_true) ∧
    (type_of% @Go.Ab.ball_tt) ∧
    (type_of% @Go.Ab.nx_l) ∧
    (type_of% @Go.Ab.nx_r) ∧
    (type_of% @Go.Ab.nx_l2) ∧
    (type_of% @Go.Ab.nx_r2) ∧
    (type_of% @Go.Ab.nx_l3) ∧
    (type_of% @Go.Ab.nx_r3) :=
  ⟨@Go.Ab.ox, @Go.Ab.ou, @Go.Ab.oy_seq, @Go.Ab.oy_ret, @Go.Ab.oy_exit, @Go.Ab.oy_skip, @Go.Ab.oy_cond, @Go.Ab.oy_block, @Go.Ab.stl_some, @Go.Ab.dre_some, @Go.Ab.nxt_normal, @Go.Ab.nxt_ret, @Go.Ab.nxt_exit, @Go.Ab.blk_exit, @Go.Ab.blk_normal, @Go.Ab.blk_ret, @Go.Ab.reg_some, @Go.Ab.cnd_true, @Go.Ab.cnd_false, @Go.Ab.opr_some, @Go.Ab.fin_ret, @Go.Ab.fin_normal, @Go.Ab.finv_some, @Go.Ab.r2_nil, @Go.Ab.r2_op, @Go.Ab.r2_gu, @Go.Ab.k2_s, @Go.Ab.k2_n, @Go.Ab.u2, @Go.Ab.v2_s, @Go.Ab.v2_n, @Go.Ab.s2_nil, @Go.Ab.s2_op, @Go.Ab.s2_gu, @Go.Ab.k3_q, @Go.Ab.k3_r, @Go.Ab.k3_qn, @Go.Ab.k3_rn, @Go.Ab.u3, @Go.Ab.v3_s, @Go.Ab.v3_n, @Go.Ab.k4, @Go.Ab.same_some, @Go.Ab.put_some, @Go.Ab.kr_undef, @Go.Ab.gu_tt, @Go.Ab.gu_ff, @Go.Ab.gu_tf, @Go.Ab.gu_ft, @Go.Ab.gu_n, @Go.Ab.pick_b, @Go.Ab.ext_tup, @Go.Ab.fa_ptr, @Go.Ab.fa_rptr, @Go.Ab.fld_agg, @Go.Ab.part_some, @Go.Ab.part_none, @Go.Ab.ldA_none, @Go.Ab.ld1_ptr, @Go.Ab.ldA_ptr, @Go.Ab.cellO_some, @Go.Ab.cellsO_some, @Go.Ab.box_eq, @Go.Ab.cells_agg, @Go.Ab.cells_int, @Go.Ab.cells_bool, @Go.Ab.cells_str, @Go.Ab.cells_sl, @Go.Ab.cells_ptr, @Go.Ab.cells_rsl, @Go.Ab.cells_map, @Go.Ab.nz_ptr, @Go.Ab.nz_rptr, @Go.Ab.nz_func, @Go.Ab.lens_str, @Go.Ab.lenl_sl, @Go.Ab.lenl_rsl, @Go.Ab.cvt_int, @Go.Ab.gd_getD, @Go.Ab.gd_eq, @Go.Ab.gd_ne, @Go.Ab.yb_bool, @Go.Ab.yb_undef, @Go.Ab.in_add, @Go.Ab.in_sub, @Go.Ab.in_mul, @Go.Ab.in_eql, @Go.Ab.in_neq, @Go.Ab.in_lss, @Go.Ab.in_leq, @Go.Ab.in_gtr, @Go.Ab.in_geq, @Go.Ab.in_and, @Go.Ab.in_or, @Go.Ab.in_xor, @Go.Ab.in_andNot, @Go.Ab.in_shl, @Go.Ab.in_shr, @Go.Ab.st_eql, @Go.Ab.st_neq, @Go.Ab.un_not, @Go.Ab.un_neg, @Go.Ab.rf_int, @Go.Ab.rf_bool, @Go.Ab.rf_str, @Go.Ab.rf_nilp, @Go.Ab.rf_nili, @Go.Ab.rf_nilf, @Go.Ab.rf_rsl, @Go.Ab.rf_rptr, @Go.Ab.rf_agg, @Go.Ab.rf_tup, @Go.Ab.rf_func, @Go.Ab.rf_ptr, @Go.Ab.rf_sl, @Go.Ab.Heap.next_push, @Go.Ab.Heap.next_set, @Go.Ab.Heap.next_kill, @Go.Ab.rn_some, @Go.Ab.lp_normal, @Go.Ab.lp_exit, @Go.Ab.lp_ret, @and_true, @true_and, @and_self, @true_or, @or_true, @false_or, @or_false, @false_and, @and_false, @Go.Ab.AV.int.injEq, @Go.Ab.AV.bool.injEq, @not_false_eq_true, @decide_true, @decide_false, @Bool.false_eq_true, @Bool.not_true, @Bool.not_false, @Bool.true_and, @Bool.and_true, @Bool.and_self, @Bool.false_and, @Bool.and_false, @Bool.true_or, @Bool.or_true, @Bool.false_or, @Bool.or_false, @Bool.or_self, @Go.Ab.unch_self, @Go.Ab.kv_ext, @Go.Ab.unch_push, @Go.Ab.unch_set, @Go.Ab.unch_kill, @Go.Ab.le_s, @Nat.le_refl, @Go.Ab.st_new, @Go.Ab.l2_nil, @Go.Ab.l2_gu, @Go.Ab.l2_op, @Go.Ab.ul_free, @Go.Ab.ul_view, @Go.Ab.vl_s, @Go.Ab.vl_n, @Go.Ab.kf_same, @Go.Ab.kf_push, @Go.Ab.kv_kill, @Go.Ab.kv_same, @Go.Ab.kv_nil, @Go.Ab.lok_set, @Nat.lt_irrefl, @Go.Ab.killL_nil, @Go.Ab.all_nil, @Go.Ab.ball_nil, @Go.Ab.putE_some, @Go.Ab.putE_none, @Go.Ab.al_ptr, @Go.Ab.al_sl, @Go.Ab.al_int, @Go.Ab.al_bool, @Go.Ab.al_str, @Go.Ab.al_rsl, @Go.Ab.al_rptr, @Go.Ab.al_agg, @Go.Ab.al_tup, @Go.Ab.al_nil, @Go.Ab.al_cons, @Go.Ab.bl_cells, @Go.Ab.beq_l1, @Go.Ab.beq_r1, @Go.Ab.beq_l2, @Go.Ab.beq_r2, @Go.Ab.lt_s, @Go.Ab.lt_s2, @List.range'_zero, @List.range'_succ, @Go.Ab.fr_mv, @Go.Ab.fr_pick, @Go.Ab.fr_new, @Go.Ab.fr_box, @Go.Ab.fr_nz, @Go.Ab.fr_bin, @Go.Ab.fr_un, @Go.Ab.fr_fa, @Go.Ab.fr_fld, @Go.Ab.fr_ixs, @Go.Ab.fr_six, @Go.Ab.fr_ext, @Go.Ab.fr_mkf, @Go.Ab.fr_bld, @Go.Ab.fr_bsl, @Go.Ab.fr_ld, @Go.Ab.fr_st, @Go.Ab.fr_lens, @Go.Ab.fr_lenl, @Go.Ab.fr_call, @Go.Ab.fr_callv, @Go.Ab.fr_cvt, @Go.Ab.fr_raw, @Go.Ab.all_true, @Go.Ab.allL_true, @Go.Ab.ball_tt, @Go.Ab.nx_l, @Go.Ab.nx_r, @Go.Ab.nx_l2, @Go.Ab.nx_r2, @Go.Ab.nx_l3, @Go.Ab.nx_r3⟩
end Go.Ab
