/- What the law's proof leans on, part 5. Conditions: in each statement. -/
import Derived.Test.YtibehelnfbcnjaaGreatDoorQVF
set_option linter.all false
set_option linter.unusedSimpArgs false
set_option linter.unusedVariables false
set_option linter.unusedSectionVars false
namespace Go.Ab
open Go
section
variable [E : Env] {P : Program} {cx : Ctx} {pin : Nat} {st : St}
abbrev Rx := Option (Ex × St)
def nxt (r : Rx) (k : St → Rx) : Rx := match r with | some (.normal, st) => k st | r => r
@[congr] theorem yaug {r r' : Rx} {k : St → Rx} (h : r = r') : nxt r k = nxt r' k := by rw [h]
theorem nxt_normal {st : St} {k : St → Rx} : nxt (some (.normal, st)) k = k st := id rfl
theorem nxt_ret {st : St} {k : St → Rx} : nxt (some (.ret, st)) k = some (.ret, st) := id rfl
theorem nxt_exit {st : St} {i : Nat} {k : St → Rx} : nxt (some (.exit i, st)) k = some (.exit i, st) := id rfl
theorem nxt_cond {c : Bool} {x y : Rx} {k : St → Rx} : nxt (bif c then x else y) k = bif c then nxt x k else nxt y k := by cases c <;> rfl
def reg (ks : Option (List Nat)) (m : List Nat) (r : Option (EV × Heap)) : Rx := match r with | some (env, H) => some (.normal, ⟨match ks with | some ks => env.lim ks | none => env, m, H⟩) | none => none
@[congr] theorem yauy {ks : Option (List Nat)} {m : List Nat} {r r' : Option (EV × Heap)} (h : r = r') : reg ks m r = reg ks m r' := by rw [h]
theorem reg_some {ks m : List Nat} {env : EV} {H : Heap} : reg (some ks) m (some (env, H)) = some (.normal, ⟨env.lim ks, m, H⟩) := id rfl
theorem reg_none {m : List Nat} {env : EV} {H : Heap} : reg none m (some (env, H)) = some (.normal, ⟨env, m, H⟩) := id rfl
theorem reg_cond {ks : Option (List Nat)} {m : List Nat} {c : Bool} {x y : Option (EV × Heap)} : reg ks m (bif c then x else y) = bif c then reg ks m x else reg ks m y := by cases c <;> rfl
def cnd (x : Option AV) (a b : Unit → Rx) : Rx := match x with | some (.bool c) => bif c then a () else b () | _ => none
@[congr] theorem yast {x x' : Option AV} {a b : Unit → Rx} (h : x = x') : cnd x a b = cnd x' a b := by rw [h]
theorem cnd_true {a b : Unit → Rx} : cnd (some (.bool true)) a b = a () := id rfl
theorem cnd_false {a b : Unit → Rx} : cnd (some (.bool false)) a b = b () := id rfl
theorem cnd_bool {c : Bool} {a b : Unit → Rx} : cnd (some (.bool c)) a b = bif c then a () else b () := id rfl
def lim (ks : Option (List Nat)) (pin : Nat) (r : Rx) : Rx := match r with
 | some (.normal, st) => some (.normal, match ks with | some ks => zka pin ⟨st.env.lim ks, st.marks, st.H⟩ | none => st)
 | r => r
@[congr] theorem yat0 {ks : Option (List Nat)} {pin : Nat} {r r' : Rx} (h : r = r') : lim ks pin r = lim ks pin r' := by rw [h]
theorem lim_some {ks : List Nat} {env : EV} {m : List Nat} {H : Heap} : lim (some ks) pin (some (.normal, ⟨env, m, H⟩)) = some (.normal, zka pin ⟨env.lim ks, m, H⟩) := rfl
theorem lim_none {st : St} : lim none pin (some (.normal, st)) = some (.normal, st) := rfl
theorem lim_ret {ks : Option (List Nat)} {st : St} : lim ks pin (some (.ret, st)) = some (.ret, st) := rfl
theorem lim_exit {ks : Option (List Nat)} {st : St} {i : Nat} : lim ks pin (some (.exit i, st)) = some (.exit i, st) := rfl
theorem lim_cond {ks : Option (List Nat)} {c : Bool} {x y : Rx} : lim ks pin (bif c then x else y) = bif c then lim ks pin x else lim ks pin y := by cases c <;> rfl
def blk (i : Nat) (r : Rx) : Rx := match r with | some (.exit j, st) => if j = i then some (.normal, st) else some (.exit j, st) | r => r
@[congr] theorem yara {i : Nat} {r r' : Rx} (h : r = r') : blk i r = blk i r' := by rw [h]
theorem blk_normal {st : St} {i : Nat} : blk i (some (.normal, st)) = some (.normal, st) := id rfl
theorem blk_ret {st : St} {i : Nat} : blk i (some (.ret, st)) = some (.ret, st) := id rfl
theorem blk_exit {st : St} {i j : Nat} : blk i (some (.exit j, st)) = if j = i then some (.normal, st) else some (.exit j, st) := id rfl
theorem blk_cond {i : Nat} {c : Bool} {x y : Rx} : blk i (bif c then x else y) = bif c then blk i x else blk i y := by cases c <;> rfl
noncomputable def Ox (P : Program) (cx : Ctx) (pin : Nat) (c : Code) (st : St) : Rx := om P cx pin c st
noncomputable def Ou (P : Program) (cx : Ctx) (pin : Nat) (c : Code) (st : St) (_ : Unit) : Rx := om P cx pin c st
noncomputable def Ol (P : Program) (cx : Ctx) (pin : Nat) (c : Code) (st : St) : Rx := om P cx pin (.loop c) (zka pin st)
theorem ox {c : Code} : Ox P cx pin c st = om P cx pin c st := id rfl
theorem ou {c : Code} {u : Unit} : Ou P cx pin c st u = om P cx pin c st := id rfl
theorem ol {c : Code} : Ol P cx pin c st = om P cx pin (.loop c) (zka pin st) := id rfl
theorem oy_seq {a b : Code} : om P cx pin (.seq a b) st = nxt (om P cx pin a st) (Ox P cx pin b) := by
 rw [zpc]; simp only [zcb]; unfold nxt Ox; rfl
def limr (ks : Option (List Nat)) (pin : Nat) (st : St) : Rx := some (.ret, match ks with | some ks => zka pin ⟨st.env.lim ks, st.marks, st.H⟩ | none => st)
@[congr] theorem yaqw {ks ks' : Option (List Nat)} {pin : Nat} {st : St} (h : ks = ks') : limr ks pin st = limr ks' pin st := by rw [h]
theorem limr_some {ks : List Nat} : limr (some ks) pin st = some (.ret, zka pin ⟨st.env.lim ks, st.marks, st.H⟩) := rfl
theorem limr_none : limr none pin st = some (.ret, st) := rfl
theorem oy_ret : om P cx pin .ret st = limr (E.live cx.fn 3000002) pin st := by
 rw [zpc]; simp only [zcb, zuz, limr]
 all_goals cases E.live cx.fn 3000002 <;> rfl
theorem oy_exit {i : Nat} : om P cx pin (.exit i) st = some (.exit i, st) := by rw [zpc]; simp only [zcb]
theorem oy_skip : om P cx pin .skip st = some (.normal, st) := by rw [zpc]; simp only [zcb]
theorem oy_cond {x : Operand} {a b : Code} : om P cx pin (.cond x a b) st = lim (E.live cx.fn (condKey x)) pin (cnd (zau st.env x) (Ou P cx pin a st) (Ou P cx pin b st)) := by
 rw [zpc]
 simp only [zcb]
 cases zau st.env x with
 | none => rfl
 | some v =>
  cases v <;> try rfl
  rename_i t
  simp only [cnd, zuz]
  cases t
  ·simp only [Bool.false_eq_true, if_false, cond_false, Ou]
   cases om P cx pin b st with
   | none => rfl
   | some r => obtain ⟨e, st1⟩ := r; cases e <;> simp only [lim] <;> cases E.live cx.fn (condKey x) <;> rfl
  ·simp only [if_true, cond_true, Ou]
   cases om P cx pin a st with
   | none => rfl
   | some r => obtain ⟨e, st1⟩ := r; cases e <;> simp only [lim] <;> cases E.live cx.fn (condKey x) <;> rfl
theorem oy_block {i : Nat} {a : Code} : om P cx pin (.block i a) st = lim (E.live cx.fn (3 * i + 2)) pin (blk i (om P cx pin a st)) := by
 rw [zpc]; simp only [zcb]
 cases om P cx pin a st with
 | none => rfl
 | some r =>
  obtain ⟨e, st1⟩ := r
  cases e with
  | normal => simp only [blk, lim, zuz] <;> cases E.live cx.fn (3 * i + 2) <;> rfl
  | exit j =>
   simp only [blk, zuz]
   split
   ·simp only [lim] <;> cases E.live cx.fn (3 * i + 2) <;> rfl
   ·simp only [lim]
  | ret => simp only [blk, lim]
theorem zac {a : Code} : om P cx pin (.loop a) st = nxt (om P cx pin a st) (Ol P cx pin a) := by
 rw [zpc]; simp only [zcb]; unfold nxt Ol; rfl
theorem oy_region {i : Nat} {ops : Array Oper} : om P cx pin (.region i ops false) st = lim (E.live cx.fn (3 * (i + 1000000))) pin (reg (E.live cx.fn (3 * i)) st.marks (ze6 P (om P) ops ops.toList st.env st.H)) := by
 rw [zpc]; simp only [zcb, Bool.false_eq_true, if_false]; unfold reg limR zuz lim
 cases ze6 P (om P) ops ops.toList st.env st.H with
 | none => rfl
 | some q => simp only <;> cases E.live cx.fn (3 * (i + 1000000)) <;> rfl
theorem oy_draw {i : Nat} {ops : Array Oper} : om P cx pin (.region i ops true) st = lim (E.live cx.fn (3 * (i + 1000000))) pin (reg (E.live cx.fn (3 * i)) st.marks (runD P (om P) cx.fn i ops st.env st.H)) := by
 rw [zpc]; simp only [zcb, if_true]; unfold reg limR zuz lim
 cases runD P (om P) cx.fn i ops st.env st.H with
 | none => rfl
 | some q => simp only <;> cases E.live cx.fn (3 * (i + 1000000)) <;> rfl
theorem beq_tt {c : Bool} : (c == true) = c := by cases c <;> rfl
theorem beq_ff {c : Bool} : (c == false) = !c := by cases c <;> rfl
theorem cond_not {α : Type} {c : Bool} {x y : α} : (bif !c then x else y) = bif c then y else x := by cases c <;> rfl
theorem cond_cc1 {α : Type} {c : Bool} {x y z : α} : (bif c then (bif c then x else y) else z) = bif c then x else z := by cases c <;> rfl
theorem cond_cc2 {α : Type} {c : Bool} {x y z : α} : (bif c then x else (bif c then y else z)) = bif c then x else z := by cases c <;> rfl
theorem cond_xc {c x : Bool} : (bif c then x else c) = (c && x) := by cases c <;> rfl
theorem cond_cx {c x : Bool} : (bif c then c else x) = (c || x) := by cases c <;> rfl
theorem cond_tf {c : Bool} : (bif c then true else false) = c := by cases c <;> rfl
theorem cond_ft {c : Bool} : (bif c then false else true) = !c := by cases c <;> rfl
theorem cond_xf {c x : Bool} : (bif c then x else false) = (c && x) := by cases c <;> rfl
theorem cond_tx {c x : Bool} : (bif c then true else x) = (c || x) := by cases c <;> rfl
theorem cond_fx {c x : Bool} : (bif c then false else x) = (!c && x) := by cases c <;> rfl
theorem cond_xt {c x : Bool} : (bif c then x else true) = (!c || x) := by cases c <;> rfl
theorem cond_some {c : Bool} {x : Ex} {a b : EV} {m : List Nat} {n : Nat} {l l' : List (Option Blk)} : (bif c then some (x, ⟨a, m, ⟨n, l⟩⟩) else some (x, ⟨b, m, ⟨n, l'⟩⟩) : Rx) = some (x, ⟨bif c then a else b, m, ⟨n, bif c then l else l'⟩⟩) := by cases c <;> rfl
theorem cond_someH {c : Bool} {x : Ex} {a b : EV} {m : List Nat} {H : Heap} : (bif c then some (x, ⟨a, m, H⟩) else some (x, ⟨b, m, H⟩) : Rx) = some (x, ⟨bif c then a else b, m, H⟩) := by cases c <;> rfl
theorem cond_ev {c : Bool} {n : Nat} {a b : List (Nat × AV)} : (bif c then (⟨n, a⟩ : EV) else ⟨n, b⟩) = ⟨n, bif c then a else b⟩ := by cases c <;> rfl
theorem cond_hp {c : Bool} {n : Nat} {a b : List (Option Blk)} : (bif c then (⟨n, a⟩ : Heap) else ⟨n, b⟩) = ⟨n, bif c then a else b⟩ := by cases c <;> rfl
theorem cond_cons {α : Type} {c : Bool} {x y : α} {a b : List α} : (bif c then x :: a else y :: b) = (bif c then x else y) :: (bif c then a else b) := by cases c <;> rfl
theorem cond_pair {c : Bool} {k : Nat} {x y : AV} : (bif c then (k, x) else (k, y)) = (k, bif c then x else y) := by cases c <;> rfl
theorem cond_self {α : Type} {c : Bool} {x : α} : (bif c then x else x) = x := by cases c <;> rfl
theorem cond_bool {c a b : Bool} : (bif c then AV.bool a else AV.bool b) = AV.bool (bif c then a else b) := by cases c <;> rfl
theorem cond_int {c : Bool} {k : IntKind} {a b : Int} : (bif c then AV.int k a else AV.int k b) = AV.int k (bif c then a else b) := by cases c <;> rfl
theorem cond_str {c : Bool} {a b : ByteArray} : (bif c then AV.str a else AV.str b) = AV.str (bif c then a else b) := by cases c <;> rfl
theorem cond_agg {c : Bool} {a b : List AV} : (bif c then AV.agg a else AV.agg b) = AV.agg (bif c then a else b) := by cases c <;> rfl
theorem cond_tup {c : Bool} {a b : List AV} : (bif c then AV.tup a else AV.tup b) = AV.tup (bif c then a else b) := by cases c <;> rfl
theorem cond_sblk {c : Bool} {a b : Blk} : (bif c then some a else some b) = some (bif c then a else b) := by cases c <;> rfl
theorem cond_cells {c : Bool} {t : TypeId} {a b : List AV} : (bif c then Blk.cells t a else Blk.cells t b) = Blk.cells t (bif c then a else b) := by cases c <;> rfl
theorem cond_res {c : Bool} {a b : AV} {n : Nat} {l l' : List (Option Blk)} : (bif c then some (a, ⟨n, l⟩) else some (b, ⟨n, l'⟩) : Option (AV × Heap)) = some (bif c then a else b, ⟨n, bif c then l else l'⟩) := by cases c <;> rfl
theorem cond_resH {c : Bool} {a b : AV} {H : Heap} : (bif c then some (a, H) else some (b, H) : Option (AV × Heap)) = some (bif c then a else b, H) := by cases c <;> rfl
theorem ev_look {n t : Nat} {s : List (Nat × AV)} : EV.look ⟨n, s⟩ t = zbb s t := rfl
theorem ev_set {n t : Nat} {s : List (Nat × AV)} {v : AV} (h : t < n) : EV.set ⟨n, s⟩ t v = ⟨n, zo2 t v s⟩ := if_pos h
theorem ev_lim {n : Nat} {s : List (Nat × AV)} {ks : List Nat} : EV.lim ⟨n, s⟩ ks = ⟨n, zo4 ks s⟩ := rfl
theorem ev_ren {n : Nat} {s : List (Nat × AV)} {ρ : Nat → Nat} : EV.ren ⟨n, s⟩ ρ = ⟨n, zyq ρ s⟩ := rfl
theorem put_s {e : EV} {d : Nat} {v : AV} : zcw e (some d) v = e.set d v := rfl
theorem put_n {e : EV} {v : AV} : zcw e none v = e := rfl
theorem look_nil {t : Nat} : zbb [] t = none := rfl
theorem look_cons {k t : Nat} {v : AV} {s : List (Nat × AV)} : zbb ((k, v) :: s) t = if t = k then some v else zbb s t := rfl
theorem ins_nil {t : Nat} {v : AV} : zo2 t v [] = [(t, v)] := rfl
theorem ins_cons {k t : Nat} {v x : AV} {s : List (Nat × AV)} : zo2 t v ((k, x) :: s) = if t = k then (t, v) :: s else if t < k then (t, v) :: (k, x) :: s else (k, x) :: zo2 t v s := rfl
theorem ev_rep {n t : Nat} {s : List (Nat × AV)} {v : AV} : EV.rep ⟨n, s⟩ t v = ⟨n, repL t v s⟩ := rfl
theorem rep_nil {t : Nat} {v : AV} : repL t v [] = [] := rfl
theorem rep_cons {k t : Nat} {v x : AV} {s : List (Nat × AV)} : repL t v ((k, x) :: s) = if t = k then (k, v) :: s else (k, x) :: repL t v s := rfl
theorem lim_nil {ks : List Nat} : zo4 ks [] = [] := rfl
theorem lim_cons {ks : List Nat} {k : Nat} {v : AV} {s : List (Nat × AV)} : zo4 ks ((k, v) :: s) = if ks.contains k then (k, v) :: zo4 ks s else zo4 ks s := rfl
theorem vals_nil : vals [] = [] := rfl
theorem vals_cons {k : Nat} {v : AV} {s : List (Nat × AV)} : vals ((k, v) :: s) = v :: vals s := rfl
theorem renE_nil {ρ : Nat → Nat} : zyq ρ [] = [] := rfl
theorem renE_cons {ρ : Nat → Nat} {k : Nat} {v : AV} {s : List (Nat × AV)} : zyq ρ ((k, v) :: s) = (k, v.ren ρ) :: zyq ρ s := rfl
theorem argL_nil {i : Nat} : zr7 i [] = [] := rfl
theorem argL_cons {i : Nat} {v : AV} {l : List AV} : zr7 i (v :: l) = (i, v) :: zr7 (i + 1) l := rfl
theorem hp_next {n : Nat} {l : List (Option Blk)} : Heap.next ⟨n, l⟩ = n := rfl
theorem hp_l {n : Nat} {l : List (Option Blk)} : Heap.l ⟨n, l⟩ = l := rfl
theorem hp_get {n b : Nat} {l : List (Option Blk)} : Heap.get ⟨n, l⟩ b = zl2 l b := rfl
theorem hp_push {n : Nat} {l : List (Option Blk)} {x : Blk} : Heap.push ⟨n, l⟩ x = ⟨n + 1, zmq l n (some x)⟩ := rfl
theorem hp_set {n b : Nat} {l : List (Option Blk)} {x : Blk} : Heap.set ⟨n, l⟩ b x = ⟨n, zmq l b (some x)⟩ := rfl
theorem hp_setO {n b : Nat} {l : List (Option Blk)} {x : Option Blk} : Heap.setO ⟨n, l⟩ b x = ⟨n, zmq l b x⟩ := rfl
theorem hp_kill {n b : Nat} {l : List (Option Blk)} : Heap.kill ⟨n, l⟩ b = ⟨n, zmq l b none⟩ := rfl
theorem getL_z {x : Option Blk} {l : List (Option Blk)} : zl2 (x :: l) 0 = x := rfl
theorem getL_s {x : Option Blk} {l : List (Option Blk)} {n : Nat} : zl2 (x :: l) (n + 1) = zl2 l n := rfl
theorem setL_nz {x : Option Blk} : zmq [] 0 x = [x] := rfl
theorem setL_ns {x : Option Blk} {n : Nat} : zmq [] (n + 1) x = none :: zmq [] n x := rfl
theorem setL_z {x y : Option Blk} {l : List (Option Blk)} : zmq (y :: l) 0 x = x :: l := rfl
theorem setL_s {x y : Option Blk} {l : List (Option Blk)} {n : Nat} : zmq (y :: l) (n + 1) x = y :: zmq l n x := rfl
theorem hp_part {n : Nat} {l : List (Option Blk)} {ord : List Nat} : Heap.part ⟨n, l⟩ ord = ⟨ord.length, pick ⟨n, l⟩ (zgo ord) ord⟩ := rfl
theorem pick_nil {H : Heap} {ρ : Nat → Nat} : pick H ρ [] = [] := rfl
theorem pick_cons {H : Heap} {ρ : Nat → Nat} {b : Nat} {l : List Nat} : pick H ρ (b :: l) = (H.get b).map (Blk.ren ρ) :: pick H ρ l := rfl
theorem rank_cons {a b : Nat} {l : List Nat} : zgo (a :: l) b = if b = a then 0 else zgo l b + 1 := rfl
theorem reach_nil {H : Heap} {f : Nat} {acc : List Nat} : zdu H f [] acc = some acc := by cases f <;> rfl
theorem reach_cons {H : Heap} {f b : Nat} {todo acc : List Nat} : zdu H (f + 1) (b :: todo) acc = if acc.contains b then zdu H f todo acc else zdu H f (todo ++ zma (H.get b)) (acc ++ [b]) := rfl
theorem refsO_some {x : Blk} : zma (some x) = x.refs := rfl
theorem refsO_none : zma none = [] := rfl
theorem pinRefs_nil {H : Heap} : zhj H [] = [] := rfl
theorem pinRefs_cons {H : Heap} {b : Nat} {l : List Nat} : zhj H (b :: l) = zma (H.get b) ++ zhj H l := rfl
def pk (pin : Nat) (st : St) (r : Option (List Nat)) : St := match r with | some ord => ⟨st.env.ren (zgo ord), st.marks.map (zgo ord), st.H.part ord⟩ | none => st
@[congr] theorem yaxk {pin : Nat} {st : St} {r r' : Option (List Nat)} (h : r = r') : pk pin st r = pk pin st r' := by rw [h]
theorem pk_some {env : EV} {m : List Nat} {H : Heap} {ord : List Nat} : pk pin ⟨env, m, H⟩ (some ord) = ⟨env.ren (zgo ord), m.map (zgo ord), H.part ord⟩ := rfl
theorem packS_eq {env : EV} {m : List Nat} {H : Heap} : zka pin ⟨env, m, H⟩ = pk pin ⟨env, m, H⟩ (zrk H pin (AV.refsL (vals env.s) ++ m)) := rfl
theorem ordOf_eq {H : Heap} {r : List Nat} : zrk H pin r = zdu H 100000 (zhj H (List.range pin) ++ r) (List.range pin) := rfl
end
end Go.Ab
