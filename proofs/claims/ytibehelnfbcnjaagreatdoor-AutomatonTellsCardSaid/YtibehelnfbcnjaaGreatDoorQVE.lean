/- What the law's proof leans on, part 9. Conditions: in each statement. -/
import Derived.Test.YtibehelnfbcnjaaGreatDoorQVD
set_option linter.all false
set_option linter.unusedSimpArgs false
set_option linter.unusedVariables false
set_option linter.unusedSectionVars false
namespace Go.Ab
open Go
section
variable [E : Env] {P : Program} {cx : Ctx} {pin lo : Nat} {st : St}
abbrev Rv := Option (AV × Heap)
def finv (pin : Nat) (H : Heap) (r : Option (List AV)) : Rv := match r with | some vs => yaag pin (zww vs) H | none => none
@[congr] theorem yaqo {H : Heap} {r r' : Option (List AV)} (h : r = r') : finv pin H r = finv pin H r' := by rw [h]
theorem finv_some {H : Heap} {vs : List AV} : finv pin H (some vs) = yaag pin (zww vs) H := rfl
def fin (P : Program) (pin : Nat) (rs : List ResultVar) (r : Rx) : Rv :=
 match r with
 | some (.normal, st) | some (.ret, st) => match zbg st.H st.marks with
  | some H' => finv pin H' (za6 P H' st.env rs)
  | none => none
 | _ => none
@[congr] theorem yas9 {rs : List ResultVar} {r r' : Rx} (h : r = r') : fin P pin rs r = fin P pin rs r' := by rw [h]
theorem fin_ret {rs : List ResultVar} {env : EV} {H : Heap} : fin P pin rs (some (.ret, ⟨env, [], H⟩)) = finv pin H (za6 P H env rs) := rfl
theorem fin_normal {rs : List ResultVar} {env : EV} {H : Heap} : fin P pin rs (some (.normal, ⟨env, [], H⟩)) = finv pin H (za6 P H env rs) := rfl
theorem fin_cond {rs : List ResultVar} {c : Bool} {x y : Rx} : fin P pin rs (bif c then x else y) = bif c then fin P pin rs x else fin P pin rs y := by cases c <;> rfl
def pkr (v : AV) (H : Heap) (r : Option (List Nat)) : Rv := match r with | some ord => some (v.ren (zgo ord), H.part ord) | none => none
@[congr] theorem yauw {v : AV} {H : Heap} {r r' : Option (List Nat)} (h : r = r') : pkr v H r = pkr v H r' := by rw [h]
theorem pkr_some {v : AV} {H : Heap} {ord : List Nat} : pkr v H (some ord) = some (v.ren (zgo ord), H.part ord) := rfl
theorem packR_eq {v : AV} {H : Heap} : yaag pin v H = pkr v H (zrk H pin v.refs) := rfl
abbrev RI (P : Program) (f : FuncId) (fn : Func) (n : Nat) (rs : List ResultVar) : Prop :=
 ∀ (args : List AV) (K : Heap), args.length ≤ n → zas P (om P) f args K = fin P K.next rs (om P ⟨f, none⟩ K.next (bdy fn) ⟨⟨n, zr7 0 args⟩, [], K⟩)
theorem ri {f : FuncId} {fn : Func} {n : Nat} {rs : List ResultVar} (hf : P.funcs[f]? = some fn) (hb : (fn.body.isSome, fn.ntmps, fn.results.toList) = (true, n, rs)) : RI P f fn n rs := by
 intro args K hn
 simp only [Prod.mk.injEq] at hb
 obtain ⟨h1, h2, h3⟩ := hb
 cases hc : fn.body with
 | none => rw [hc] at h1; cases h1
 | some c =>
 unfold zas runF fin finv bdy
 simp only [hf, hc, h2, h3, Option.getD_some]
 rw [show Nat.max n args.length = n from Nat.max_eq_left hn]
 generalize om P ⟨f, none⟩ K.next c ⟨⟨n, zr7 0 args⟩, [], K⟩ = r
 cases r with
 | none => rfl
 | some q => obtain ⟨x, st⟩ := q; cases x <;> rfl
def lkN {α : Type} (k : Nat) : List (Nat × α) → Option α
 | [] => none
 | (a, x) :: l => if k = a then some x else lkN k l
theorem lkN_nil {α : Type} {k : Nat} : lkN k ([] : List (Nat × α)) = none := rfl
theorem lkN_cons {α : Type} {k a : Nat} {x : α} {l : List (Nat × α)} : lkN k ((a, x) :: l) = if k = a then some x else lkN k l := rfl
abbrev LV (f : FuncId) (row : List (Nat × List Nat)) : Prop := ∀ k, (k % 3 = 0) = False → Env.live f k = lkN k row
theorem allK_some {α : Type} {r : α} : zzh (fun _ => some r) = some r := by
 unfold zzh
 have h : ∃ q : α, ∀ κ : Nat → Nat × Nat, (fun _ => some r) κ = some q := ⟨r, fun _ => rfl⟩
 rw [dif_pos h]
 have := h.choose_spec fun _ => (0, 0)
 exact this.symm
theorem roG_some {H K : Heap} {v : AV} (h : (v.nro && K.nro) = true) : roG H (some (v, K)) = some (v.ren (sig [] H.next), zi5 [] H K) := if_pos h
theorem rwG_some {ord : List Nat} {H K : Heap} {v : AV} : rwG 0 ord H (some (v, K)) = some (v.ren (sig ord H.next), zi5 ord H K) := by simp [rwG]
theorem rwG_cond {ord : List Nat} {H : Heap} {c : Bool} {x y : Rv} : rwG lo ord H (bif c then x else y) = bif c then rwG lo ord H x else rwG lo ord H y := by cases c <;> rfl
noncomputable def cal (P : Program) (lo : Nat) (f : FuncId) (args : List AV) (H : Heap) (r : Option (List Nat)) : Rv := match r with
 | some ord => rwG lo ord H (zas P (om P) f (AV.renL (zgo ord) args) (H.part ord))
 | none => none
@[congr] theorem yasq {f : FuncId} {args : List AV} {H : Heap} {r r' : Option (List Nat)} (h : r = r') : cal P lo f args H r = cal P lo f args H r' := by rw [h]
theorem cal_some {f : FuncId} {args : List AV} {H : Heap} {ord : List Nat} : cal P lo f args H (some ord) = rwG lo ord H (zas P (om P) f (AV.renL (zgo ord) args) (H.part ord)) := rfl
def sel (b : Bool) (x y : Unit → Rv) : Rv := bif b then x () else y ()
@[congr] theorem yavm {b b' : Bool} {x y : Unit → Rv} (h : b = b') : sel b x y = sel b' x y := by rw [h]
theorem sel_true {x y : Unit → Rv} : sel true x y = x () := rfl
theorem sel_false {x y : Unit → Rv} : sel false x y = y () := rfl
noncomputable def cin (P : Program) (f : FuncId) (args : List AV) (H : Heap) (_ : Unit) : Rv := roG H (zzh fun κ => (zjx P κ H 1000 args).bind fun as => zas P (om P) f as Heap.empty)
noncomputable def cou (P : Program) (lo : Nat) (f : FuncId) (args : List AV) (H : Heap) (_ : Unit) : Rv := cal P lo f args H (zdu H 100000 (AV.refsL args) [])
theorem cin_eq {f : FuncId} {args : List AV} {H : Heap} {u : Unit} : cin P f args H u = roG H (zzh fun κ => (zjx P κ H 1000 args).bind fun as => zas P (om P) f as Heap.empty) := rfl
theorem cou_eq {f : FuncId} {args : List AV} {H : Heap} {u : Unit} : cou P lo f args H u = cal P lo f args H (zdu H 100000 (AV.refsL args) []) := rfl
theorem callA_eq {f : FuncId} {args : List AV} {H : Heap} : zji P (om P) lo f args H = sel (E.inl f && !AV.rfL args) (cin P f args H) (cou P lo f args H) := by
 unfold zji sel cin cou cal
 cases E.inl f && !AV.rfL args
 ·simp only [cond_false]; generalize zdu H 100000 (AV.refsL args) [] = r; cases r <;> rfl
 ·rfl
theorem callV_func {f : FuncId} {a b args : List AV} {H : Heap} : zky P (om P) lo (.func f a b) args H = zji P (om P) lo f (a ++ args ++ b) H := rfl
theorem graft_eq {ord : List Nat} {H K : Heap} : zi5 ord H K = zgr (sig ord H.next) ((K.l.drop ord.length).take (K.next - ord.length)) (zen (sig ord H.next) K 0 ord H) := rfl
theorem addNew_nil {ρ : Nat → Nat} {H : Heap} : zgr ρ [] H = H := rfl
theorem addNew_cons {ρ : Nat → Nat} {x : Option Blk} {l l' : List (Option Blk)} {n : Nat} : zgr ρ (x :: l) ⟨n, l'⟩ = zgr ρ l ⟨n + 1, zmq l' n (x.map (Blk.ren ρ))⟩ := rfl
theorem putBack_nil {ρ : Nat → Nat} {K H : Heap} {j : Nat} : zen ρ K j [] H = H := rfl
theorem putBack_cons {ρ : Nat → Nat} {K H : Heap} {j b : Nat} {l : List Nat} : zen ρ K j (b :: l) H = zen ρ K (j + 1) l (H.setO b ((K.get j).map (Blk.ren ρ))) := rfl
theorem part_nil {H : Heap} : H.part [] = ⟨0, []⟩ := rfl
theorem sig_nil {n j : Nat} : sig [] n j = n + j := by simp [sig]
theorem sig_eq {ord : List Nat} {n j : Nat} : sig ord n j = if j < ord.length then ord.getD j 0 else n + (j - ord.length) := rfl
theorem mx_one {k : IntKind} {x y : Int} : maxA (.int k x) [.int k y] = some (.int k (bif decide (x < y) then y else x)) := by
 simp only [maxA, if_true, Bool.cond_decide]
theorem mn_one {k : IntKind} {x y : Int} : minA (.int k x) [.int k y] = some (.int k (bif decide (y < x) then y else x)) := by
 simp only [minA, if_true, Bool.cond_decide]
theorem nro_int {k : IntKind} {n : Int} : (AV.int k n).nro = true := rfl
theorem nro_bool {b : Bool} : (AV.bool b).nro = true := rfl
theorem nro_str {s : ByteArray} : (AV.str s).nro = true := rfl
theorem nro_tup {l : List AV} : (AV.tup l).nro = AV.nroL l := rfl
theorem nroL_nil : AV.nroL [] = true := rfl
theorem nroL_cons {v : AV} {l : List AV} : AV.nroL (v :: l) = (v.nro && AV.nroL l) := rfl
theorem hp_nro {n : Nat} : Heap.nro ⟨n, []⟩ = true := rfl
def inlC (v : Option AV) (l : Option (List AV)) : Option (List AV) := match v, l with | some v, some l => some (v :: l) | _, _ => none
theorem inlC_some {v : AV} {l : List AV} : inlC (some v) (some l) = some (v :: l) := rfl
def inlG (b : Bool) (l : List AV) (x : Unit → Option (List AV)) : Option (List AV) := bif b then some l else x ()
@[congr] theorem yaqt {b b' : Bool} {l : List AV} {x : Unit → Option (List AV)} (h : b = b') : inlG b l x = inlG b' l x := by rw [h]
theorem inlG_true {l : List AV} {x : Unit → Option (List AV)} : inlG true l x = some l := rfl
theorem inlG_false {l : List AV} {x : Unit → Option (List AV)} : inlG false l x = x () := rfl
def inlX (P : Program) (κ : Nat → Nat × Nat) (H : Heap) (f : Nat) (v : AV) (l : List AV) (_ : Unit) : Option (List AV) := inlC (zln P κ H f v) (zjx P κ H f l)
theorem inlX_eq {κ : Nat → Nat × Nat} {H : Heap} {f : Nat} {v : AV} {l : List AV} {u : Unit} : inlX P κ H f v l u = inlC (zln P κ H f v) (zjx P κ H f l) := rfl
theorem inlL_nil {κ : Nat → Nat × Nat} {H : Heap} {f : Nat} : zjx P κ H (f + 1) [] = some [] := by simp [zjx]
theorem inlL_cons {κ : Nat → Nat × Nat} {H : Heap} {f : Nat} {v : AV} {l : List AV} : zjx P κ H (f + 1) (v :: l) = inlG (AV.rfL (v :: l)) (v :: l) (inlX P κ H f v l) := by
 simp only [zjx, inlG, inlX, inlC]
 cases AV.rfL (v :: l)
 ·simp only [Bool.false_eq_true, if_false, cond_false]
  cases zln P κ H f v <;> cases zjx P κ H f l <;> rfl
 ·simp only [if_true, cond_true]
theorem inlV_int {κ : Nat → Nat × Nat} {H : Heap} {f : Nat} {k : IntKind} {n : Int} : zln P κ H (f + 1) (.int k n) = some (.int k n) := by simp [zln]
theorem inlV_str {κ : Nat → Nat × Nat} {H : Heap} {f : Nat} {s : ByteArray} : zln P κ H (f + 1) (.str s) = some (.str s) := by simp [zln]
theorem inlV_rsl {κ : Nat → Nat × Nat} {H : Heap} {f c s : Nat} {a : Option Addr} {l : List AV} : zln P κ H (f + 1) (.rsl a c s l) = some (.rsl a c s l) := by simp [zln]
def inlB (P : Program) (κ : Nat → Nat × Nat) (H : Heap) (f b i n : Nat) (x : Option Blk) : Option AV := match x with
 | some (.cells t c) => match ze1 P t, za0 P t, zjx P κ H f ((c.drop (i * 1)).take (n * 1)) with
  | some g, some s, some l => if s = 1 && decide (0 < 1) && decide ((i + n) * 1 ≤ c.length) && (g || (1 : Nat) == 1 && zbo l) then some (.rsl (some ⟨(κ b).1, i * 1, none⟩) ((κ b).2 - i) 1 (if g then zot 1 n l else l)) else none
  | _, _, _ => none
 | _ => none
@[congr] theorem yaqr {κ : Nat → Nat × Nat} {H : Heap} {f b i n : Nat} {x x' : Option Blk} (h : x = x') : inlB P κ H f b i n x = inlB P κ H f b i n x' := by rw [h]
theorem inlV_sl {κ : Nat → Nat × Nat} {H : Heap} {f b i n : Nat} : zln P κ H (f + 1) (.sl b i n 1) = inlB P κ H f b i n (H.get b) := by
 simp only [zln, inlB]
 cases H.get b with
 | none => rfl
 | some x => cases x <;> rfl
theorem inlB_some {κ : Nat → Nat × Nat} {H : Heap} {f b i n t : Nat} {c : List AV} (ha : ze1 P t = some false) (hs : za0 P t = some 1) (hl : (decide ((i + n) ≤ c.length) && zbo ((c.drop i).take n) && AV.rfL ((c.drop i).take n)) = true) :
  inlB P κ H (f + 1) b i n (some (.cells t c)) = some (.rsl (some ⟨(κ b).1, i, none⟩) ((κ b).2 - i) 1 ((c.drop i).take n)) := by
 simp only [Bool.and_eq_true, decide_eq_true_eq] at hl
 have e : zjx P κ H (f + 1) ((c.drop i).take n) = some ((c.drop i).take n) := by
  have := hl.2
  revert this
  generalize (c.drop i).take n = l
  intro h
  cases l with
  | nil => simp [zjx]
  | cons v l => rw [inlL_cons, h]; rfl
 simp only [inlB, ha, hs, Nat.mul_one, e]
 simp [hl.1.1, hl.1.2]
theorem ren_bool {ρ : Nat → Nat} {b : Bool} : (AV.bool b).ren ρ = .bool b := rfl
theorem ren_int {ρ : Nat → Nat} {k : IntKind} {n : Int} : (AV.int k n).ren ρ = .int k n := rfl
theorem ren_str {ρ : Nat → Nat} {s : ByteArray} : (AV.str s).ren ρ = .str s := rfl
theorem ren_ptr {ρ : Nat → Nat} {b o : Nat} : (AV.ptr b o).ren ρ = .ptr (ρ b) o := rfl
theorem ren_asl {ρ : Nat → Nat} {b o n c s : Nat} : (AV.asl b o n c s).ren ρ = .asl (ρ b) o n c s := rfl
theorem refs_asl {b o n c s : Nat} : (AV.asl b o n c s).refs = [b] := rfl
theorem lenl_asl {b o n c s : Nat} : zzx (.asl b o n c s) = some (.int .i64 n) := rfl
theorem cells_asl {b o n c s : Nat} : (AV.asl b o n c s).cells = [.asl b o n c s] := rfl
theorem leaf_asl {b o n c s : Nat} : zdf (.asl b o n c s) = true := rfl
theorem rf_asl {b o n c s : Nat} : (AV.asl b o n c s).rf = false := rfl
theorem ren_sl {ρ : Nat → Nat} {b i n s : Nat} : (AV.sl b i n s).ren ρ = .sl (ρ b) i n s := rfl
theorem ren_rptr {ρ : Nat → Nat} {a : Addr} {l : List AV} : (AV.rptr a l).ren ρ = .rptr a l := rfl
theorem ren_rsl {ρ : Nat → Nat} {a : Option Addr} {c s : Nat} {l : List AV} : (AV.rsl a c s l).ren ρ = .rsl a c s l := rfl
theorem ren_mapn {ρ : Nat → Nat} : (AV.map none).ren ρ = .map none := rfl
theorem ren_map {ρ : Nat → Nat} {b : Nat} : (AV.map (some b)).ren ρ = .map (some (ρ b)) := rfl
theorem ren_yf {ρ : Nat → Nat} {b : Nat} : (AV.yieldf b).ren ρ = .yieldf (ρ b) := rfl
theorem ren_func {ρ : Nat → Nat} {f : FuncId} {a b : List AV} : (AV.func f a b).ren ρ = .func f (AV.renL ρ a) (AV.renL ρ b) := rfl
theorem ren_agg {ρ : Nat → Nat} {l : List AV} : (AV.agg l).ren ρ = .agg (AV.renL ρ l) := rfl
theorem ren_tup {ρ : Nat → Nat} {l : List AV} : (AV.tup l).ren ρ = .tup (AV.renL ρ l) := rfl
theorem ren_iface {ρ : Nat → Nat} {t : TypeId} {v : AV} : (AV.iface t v).ren ρ = .iface t (v.ren ρ) := rfl
theorem ren_nilp {ρ : Nat → Nat} : AV.nilp.ren ρ = .nilp := rfl
theorem ren_nilf {ρ : Nat → Nat} : AV.nilf.ren ρ = .nilf := rfl
theorem ren_nili {ρ : Nat → Nat} : AV.nili.ren ρ = .nili := rfl
theorem renL_nil {ρ : Nat → Nat} : AV.renL ρ [] = [] := rfl
theorem renL_cons {ρ : Nat → Nat} {v : AV} {l : List AV} : AV.renL ρ (v :: l) = v.ren ρ :: AV.renL ρ l := rfl
theorem refsL_nil : AV.refsL [] = [] := rfl
theorem refsL_cons {v : AV} {l : List AV} : AV.refsL (v :: l) = v.refs ++ AV.refsL l := rfl
theorem refs_bool {b : Bool} : (AV.bool b).refs = [] := rfl
theorem refs_int {k : IntKind} {n : Int} : (AV.int k n).refs = [] := rfl
theorem refs_str {s : ByteArray} : (AV.str s).refs = [] := rfl
theorem refs_ptr {b o : Nat} : (AV.ptr b o).refs = [b] := rfl
theorem refs_sl {b i n s : Nat} : (AV.sl b i n s).refs = [b] := rfl
theorem refs_rptr {a : Addr} {l : List AV} : (AV.rptr a l).refs = [] := rfl
theorem refs_rsl {a : Option Addr} {c s : Nat} {l : List AV} : (AV.rsl a c s l).refs = [] := rfl
theorem refs_mapn : (AV.map none).refs = [] := rfl
theorem refs_map {b : Nat} : (AV.map (some b)).refs = [b] := rfl
theorem refs_yf {b : Nat} : (AV.yieldf b).refs = [b] := rfl
theorem refs_func {f : FuncId} {a b : List AV} : (AV.func f a b).refs = AV.refsL a ++ AV.refsL b := rfl
theorem refs_agg {l : List AV} : (AV.agg l).refs = AV.refsL l := rfl
theorem refs_tup {l : List AV} : (AV.tup l).refs = AV.refsL l := rfl
theorem refs_iface {t : TypeId} {v : AV} : (AV.iface t v).refs = v.refs := rfl
theorem refs_nilp : AV.nilp.refs = [] := rfl
theorem refs_nilf : AV.nilf.refs = [] := rfl
theorem refs_nili : AV.nili.refs = [] := rfl
theorem brefs_cells {t : TypeId} {c : List AV} : (Blk.cells t c).refs = AV.refsL c := rfl
theorem bren_cells {ρ : Nat → Nat} {t : TypeId} {c : List AV} : (Blk.cells t c).ren ρ = .cells t (AV.renL ρ c) := rfl
theorem evq_s {e : EV} {t : Nat} : (Q.s t).ev e = e.look t := rfl
theorem evq_v {e : EV} {a : AV} : (Q.v a).ev e = some a := rfl
def evQ2 (x : Option AV) (l : Option (List AV)) : Option (List AV) := match x, l with | some v, some l => some (v :: l) | _, _ => none
theorem evQ_nil {e : EV} : evQ e [] = some [] := rfl
theorem evQ_cons {e : EV} {q : Q} {l : List Q} : evQ e (q :: l) = evQ2 (q.ev e) (evQ e l) := rfl
theorem evQ2_some {v : AV} {l : List AV} : evQ2 (some v) (some l) = some (v :: l) := rfl
def evP2 (i : Nat) (x : Option AV) (l : Option (List (Nat × AV))) : Option (List (Nat × AV)) := match x, l with | some v, some l => some ((i, v) :: l) | _, _ => none
theorem evP_nil {e : EV} : evP e [] = some [] := rfl
theorem evP_cons {e : EV} {q : Q} {i : Nat} {l : List (Nat × Q)} : evP e ((i, q) :: l) = evP2 i (q.ev e) (evP e l) := rfl
theorem evP2_some {i : Nat} {v : AV} {l : List (Nat × AV)} : evP2 i (some v) (some l) = some ((i, v) :: l) := rfl
def res2 (x : Option AV) (l : Option (List AV)) : Option (List AV) := match x, l with | some v, some l => some (v :: l) | _, _ => none
theorem res_nil {H : Heap} {e : EV} : za6 P H e [] = some [] := rfl
theorem res_tmp {H : Heap} {e : EV} {t : Nat} {l : List ResultVar} : za6 P H e (.tmp t :: l) = res2 (e.look t) (za6 P H e l) := rfl
theorem res2_some {v : AV} {l : List AV} : res2 (some v) (some l) = some (v :: l) := rfl
theorem tupA_one {v : AV} : zww [v] = v := rfl
theorem tupA_nil : zww [] = .tup [] := rfl
theorem tupA_two {v w : AV} {l : List AV} : zww (v :: w :: l) = .tup (v :: w :: l) := rfl
theorem opd_tmp {e : EV} {t : Nat} : zau e (.tmp t) = e.look t := rfl
theorem refsL_map {α : Type} {f : α → AV} {l : List α} (h : ∀ x, (f x).refs = []) : AV.refsL (l.map f) = [] := by
 induction l with
 | nil => rfl
 | cons x l ih => rw [List.map_cons, refsL_cons, h, ih]; rfl
theorem renL_map {α : Type} {f : α → AV} {l : List α} {ρ : Nat → Nat} (h : ∀ x, (f x).ren ρ = f x) : AV.renL ρ (l.map f) = l.map f := by
 induction l with
 | nil => rfl
 | cons x l ih => rw [List.map_cons, renL_cons, h, ih]
theorem refsL_app {a b : List AV} : AV.refsL (a ++ b) = AV.refsL a ++ AV.refsL b := by
 induction a with
 | nil => rfl
 | cons x l ih => rw [List.cons_append, refsL_cons, ih, refsL_cons, List.append_assoc]
theorem renL_app {a b : List AV} {ρ : Nat → Nat} : AV.renL ρ (a ++ b) = AV.renL ρ a ++ AV.renL ρ b := by
 induction a with
 | nil => rfl
 | cons x l ih => rw [List.cons_append, renL_cons, ih, renL_cons, List.cons_append]
def yanu (x : Option Blk) (o : Nat) : Option AV := match x with | some (.cells _ c) => c[o]? | _ => none
theorem cellO_some {t : TypeId} {c : List AV} {o : Nat} : yanu (some (.cells t c)) o = c[o]? := id rfl
def yab7 (x : Option Blk) (o n : Nat) : Option AV := match x with | some (.cells _ c) => if o + n ≤ c.length then some (.agg ((c.drop o).take n)) else none | _ => none
theorem cellsO_some {t : TypeId} {c : List AV} {o n : Nat} : yab7 (some (.cells t c)) o n = if o + n ≤ c.length then some (.agg ((c.drop o).take n)) else none := id rfl
theorem yaz4 {l : List AV} {i : Nat} {x : AV} (h : l[i]? = some x) : (l.drop i).take 1 = [x] := by
 obtain ⟨hi, rfl⟩ := List.getElem?_eq_some_iff.1 h
 rw [List.drop_eq_getElem_cons hi]; rfl
theorem ld1_ptr {H : Heap} {b o : Nat} : ld1 H (.ptr b o) = yanu (H.get b) o := by
 unfold ld1 zec yanu
 simp only
 generalize H.get b = x
 cases x with
 | none => rfl
 | some x =>
  cases x with
  | cells t c =>
   simp only
   cases h : c[o]? with
   | none => rw [if_neg (by have := List.getElem?_eq_none_iff.1 h; omega)]
   | some v =>
    have := (List.getElem?_eq_some_iff.1 h).1
    rw [if_pos (by omega), yaz4 h]
  | _ => rfl
theorem ldA_none {H : Heap} {v : AV} : ldA H none v = ld1 H v := rfl
theorem ldA_ptr {H : Heap} {b o n : Nat} : ldA H (some n) (.ptr b o) = yab7 (H.get b) o n := by
 unfold ldA zec yab7
 simp only
 generalize H.get b = x
 cases x with
 | none => rfl
 | some x =>
  cases x with
  | cells t c => simp only; split <;> rfl
  | _ => rfl
theorem ld1_rptr {H : Heap} {a : Addr} {v : AV} {l : List AV} : ld1 H (.rptr a (v :: l)) = some v := rfl
theorem ldA_rptr {H : Heap} {a : Addr} {n : Nat} {l : List AV} (h : n ≤ l.length) : ldA H (some n) (.rptr a l) = some (.agg (l.take n)) := by
 simp only [ldA, zec, if_pos h, Option.map]
def st2 (o : Nat) (cs : List AV) (x : Option Blk) (H : Heap) (b : Nat) : Option Heap := match x with | some (.cells t c) => if zbo cs && decide (o + cs.length ≤ c.length) then some (H.set b (.cells t (zbd c o cs))) else none | _ => none
@[congr] theorem yavr {o : Nat} {cs : List AV} {x x' : Option Blk} {H : Heap} {b : Nat} (h : x = x') : st2 o cs x H b = st2 o cs x' H b := by rw [h]
theorem st2_some {o : Nat} {cs : List AV} {H : Heap} {b : Nat} {t : TypeId} {c : List AV} (h : (zbo cs && decide (o + cs.length ≤ c.length)) = true) : st2 o cs (some (.cells t c)) H b = some (H.set b (.cells t (zbd c o cs))) := if_pos h
theorem st_ptr {H : Heap} {n b o : Nat} {v : AV} (h : v.cells.length = n) : stA 0 H n (.ptr b o) v = st2 o v.cells (H.get b) H b := by
 simp only [stA, h, if_true, zcn, st2, Nat.zero_le, decide_true, Bool.true_and]
 cases H.get b with
 | none => rfl
 | some x => cases x <;> rfl
theorem sr_nil {c : List AV} {o : Nat} : zbd c o [] = c := rfl
theorem sr_cons {c : List AV} {o : Nat} {v : AV} {l : List AV} : zbd c o (v :: l) = zbd (c.set o v) (o + 1) l := rfl
theorem fa_ptr {off b o : Nat} : faA off (.ptr b o) = some (.ptr b (o + off)) := rfl
theorem fa_rptr {off : Nat} {a : Addr} {l : List AV} : faA off (.rptr a l) = some (.rptr (a.add off) (l.drop off)) := rfl
theorem fld_agg {off : Nat} {n : Option Nat} {l : List AV} : fldA off n (.agg l) = zer l off n := rfl
theorem part_some {off n : Nat} {l : List AV} : zer l off (some n) = some (.agg ((l.drop off).take n)) := rfl
theorem part_none {off : Nat} {l : List AV} : zer l off none = l[off]? := rfl
theorem pick_b {c : Bool} {a b : Option AV} : zwg (.bool c) a b = bif c then a else b := by cases c <;> rfl
theorem cond_oav {c : Bool} {a b : AV} : (bif c then some a else some b) = some (bif c then a else b) := by cases c <;> rfl
theorem ext_tup {i : Nat} {l : List AV} : extA i (.tup l) = l[i]? := rfl
theorem cvt_int {k k' : IntKind} {n : Int} : cvtA k (.int k' n) = some (.int k (k.wrap n)) := rfl
theorem lens_str {s : ByteArray} : yah2 (.str s) = some (.int .i64 s.size) := rfl
theorem lenl_sl {b i n s : Nat} : zzx (.sl b i n s) = some (.int .i64 n) := rfl
theorem lenl_rsl {a : Option Addr} {c s : Nat} {l : List AV} : zzx (.rsl a c s l) = some (.int .i64 l.length) := rfl
theorem nz_ptr {b o : Nat} : nzA (.ptr b o) = some (.ptr b o) := rfl
theorem nz_rptr {a : Addr} {l : List AV} : nzA (.rptr a l) = some (.rptr a l) := rfl
theorem nz_func {f : FuncId} {a b : List AV} : nzA (.func f a b) = some (.func f a b) := rfl
theorem un_not {b : Bool} : unA .not (.bool b) = some (.bool !b) := rfl
theorem un_neg {k : IntKind} {n : Int} : unA .neg (.int k n) = some (.int k (k.wrap (0 - n))) := rfl
theorem box_eq {t : TypeId} {n : Nat} {H : Heap} {v : AV} (h : (v.cells.length = n && zbo v.cells) = true) : boxA t n H v = some (.ptr H.next 0, H.push (.cells t v.cells)) := if_pos (by simpa using h)
theorem bsl_eq {H : Heap} {t : TypeId} {s len : Nat} {z : List AV} {ps : List (Nat × AV)} (h : (ps.all fun p => zbo p.2.cells) = true) :
  bslA H t s z len ps = (ze9 (fun i => some (i * s, s)) z ps).bind fun cs => some (.sl H.next 0 len s, H.push (.cells t cs)) := by
 unfold bslA
 rw [if_pos h]
 cases ze9 (fun i => some (i * s, s)) z ps <;> rfl
theorem fill_nil {place : Nat → Option (Nat × Nat)} {c : List AV} : ze9 place c [] = some c := rfl
def filO (place : Nat → Option (Nat × Nat)) (c : List AV) (v : AV) (l : List (Nat × AV)) (x : Option (Nat × Nat)) : Option (List AV) := match x with
 | none => none
 | some (off, size) => if v.cells.length = size && decide (off + size ≤ c.length) then ze9 place (zbd c off v.cells) l else none
@[congr] theorem yaqn {place : Nat → Option (Nat × Nat)} {c : List AV} {v : AV} {l : List (Nat × AV)} {x x' : Option (Nat × Nat)} (h : x = x') : filO place c v l x = filO place c v l x' := by rw [h]
theorem fill_cons {place : Nat → Option (Nat × Nat)} {c : List AV} {i : Nat} {v : AV} {l : List (Nat × AV)} : ze9 place c ((i, v) :: l) = filO place c v l (place i) := by
 simp only [ze9, filO]; cases place i <;> rfl
theorem filO_some {place : Nat → Option (Nat × Nat)} {c : List AV} {off size : Nat} {v : AV} {l : List (Nat × AV)} (h2 : (v.cells.length = size && decide (off + size ≤ c.length)) = true) :
  filO place c v l (some (off, size)) = ze9 place (zbd c off v.cells) l := by
 simp only [filO]; rw [if_pos h2]
theorem cells_agg {l : List AV} : (AV.agg l).cells = l := rfl
theorem cells_int {k : IntKind} {n : Int} : (AV.int k n).cells = [.int k n] := rfl
theorem cells_bool {b : Bool} : (AV.bool b).cells = [.bool b] := rfl
theorem cells_str {s : ByteArray} : (AV.str s).cells = [.str s] := rfl
theorem cells_sl {b i n s : Nat} : (AV.sl b i n s).cells = [.sl b i n s] := rfl
theorem cells_ptr {b o : Nat} : (AV.ptr b o).cells = [.ptr b o] := rfl
theorem cells_rsl {a : Option Addr} {c s : Nat} {l : List AV} : (AV.rsl a c s l).cells = [.rsl a c s l] := rfl
theorem cells_map {b : Option Nat} : (AV.map b).cells = [.map b] := rfl
theorem leafs_nil : zbo [] = true := rfl
theorem leafs_cons {v : AV} {l : List AV} : zbo (v :: l) = (zdf v && zbo l) := rfl
theorem leaf_int {k : IntKind} {n : Int} : zdf (.int k n) = true := rfl
theorem leaf_bool {b : Bool} : zdf (.bool b) = true := rfl
theorem leaf_str {s : ByteArray} : zdf (.str s) = true := rfl
theorem leaf_sl {b i n s : Nat} : zdf (.sl b i n s) = true := rfl
theorem leaf_rsl {a : Option Addr} {c s : Nat} {l : List AV} : zdf (.rsl a c s l) = true := rfl
theorem leaf_ptr {b o : Nat} : zdf (.ptr b o) = true := rfl
theorem leaf_map {b : Option Nat} : zdf (.map b) = true := rfl
def okS {α : Type} (a : Option Addr) (l : List α) : Bool := a.isSome || l.isEmpty
theorem okS_some {α : Type} {a : Addr} {l : List α} : okS (some a) l = true := rfl
theorem okS_nil {α : Type} {a : Option Addr} : okS a ([] : List α) = true := by simp [okS]
theorem okS_map {α : Type} {a : Option Addr} {f : α → AV} {l : List α} : okS a (l.map f) = okS a l := by simp [okS]
def adr (a : Option Addr) (k : Nat) : Addr := (a.getD ⟨0, 0, none⟩).add k
theorem ix_r {a : Option Addr} {cap sz i : Nat} {vs : List AV} {k : IntKind} (ha : okS a vs = true) (h : i < vs.length) : ixA sz (.rsl a cap sz vs) (.int k (i : Int)) = some (.rptr (adr a (i * sz)) vs[i].cells) := by
 cases a with
 | none => cases vs with
  | nil => simp at h
  | cons x l => simp [okS] at ha
 | some a => simp [ixA, h, adr]
theorem ix_z {a : Option Addr} {cap sz : Nat} {n : Int} {vs : List AV} {k : IntKind} (ha : okS a vs = true) (h0 : 0 ≤ n) (h : n.toNat < vs.length) : ixA sz (.rsl a cap sz vs) (.int k n) = some (.rptr (adr a (n.toNat * sz)) vs[n.toNat].cells) := by
 cases a with
 | none => cases vs with
  | nil => simp at h
  | cons x l => simp [okS] at ha
 | some a => simp [ixA, h, h0, adr]
theorem ix_sl {b j n sz i : Nat} {k : IntKind} (h : i < n) : ixA sz (.sl b j n sz) (.int k (i : Int)) = some (.ptr b (j * sz + i * sz)) := by
 simp [ixA, h]
def elO (n : Nat) (x : Option Blk) (i m : Nat) : Option (List AV) := match x with | some (.cells _ c) => if i * n + m * n ≤ c.length then some ((c.drop (i * n)).take (m * n)) else none | _ => none
@[congr] theorem yas5 {n i m : Nat} {x x' : Option Blk} (h : x = x') : elO n x i m = elO n x' i m := by rw [h]
theorem elO_some {n i m : Nat} {t : TypeId} {c : List AV} (h : i * n + m * n ≤ c.length) : elO n (some (.cells t c)) i m = some ((c.drop (i * n)).take (m * n)) := if_pos h
theorem el_sl {H : Heap} {n b i m : Nat} : zb5 H n (.sl b i m n) = elO n (H.get b) i m := by
 simp only [zb5, elO]
 cases H.get b with
 | none => rfl
 | some x => cases x <;> simp
theorem el_rsl {H : Heap} {n c : Nat} {a : Option Addr} {l : List AV} : zb5 H n (.rsl a c n l) = some (l.flatMap AV.cells) := by simp [zb5]
theorem el_nil {H : Heap} {n c s : Nat} {a : Option Addr} : zb5 H n (.rsl a c s []) = some [] := by simp [zb5]
theorem el_str {H : Heap} {s : ByteArray} : zb5 H 1 (.str s) = some (s.data.toList.map fun b => .int .u8 b.toNat) := rfl
theorem ln_sl {H : Heap} {n b i m : Nat} : zl4 H (.sl b i m n) = some m := rfl
theorem ln_rsl {H : Heap} {n c : Nat} {a : Option Addr} {l : List AV} : zl4 H (.rsl a c n l) = some l.length := rfl
theorem ln_str {H : Heap} {s : ByteArray} : zl4 H (.str s) = some s.size := rfl
theorem ap_some {H : Heap} {e : TypeId} {n w k : Nat} {s : AV} {cs : List AV} (h : (decide (cs.length = k * n) && zbo cs) = true) : appK P H e n w s (some cs) (some k) = appS P H e n w s cs k := if_pos h
theorem ap_nil {H : Heap} {e : TypeId} {n w k a b : Nat} {l cs : List AV} : appS P H e n w (.rsl none a b l) cs k = if k = 0 then some (.rsl none a b l, H) else if zos w 0 k then some (.sl H.next 0 k n, H.push (.cells e cs)) else none := rfl
def apO (e : TypeId) (n w b m : Nat) (cs : List AV) (k : Nat) (H : Heap) (x : Option Blk) : Rv := match x with
 | some (.cells u c) => if u = e ∧ c.length = m * n ∧ zos w m k = true then some (.sl H.next 0 (m + k) n, (H.kill b).push (.cells e (c ++ cs))) else none
 | _ => none
@[congr] theorem yaq7 {e : TypeId} {n w b m k : Nat} {cs : List AV} {H : Heap} {x x' : Option Blk} (h : x = x') : apO e n w b m cs k H x = apO e n w b m cs k H x' := by rw [h]
theorem ap_sl {H : Heap} {e : TypeId} {n w k b m : Nat} {cs : List AV} (hk : k ≠ 0) : appS P H e n w (.sl b 0 m n) cs k = apO e n w b m cs k H (H.get b) := by
 simp only [appS, if_neg hk, apO, if_true, decide_true, Bool.and_true]
 cases H.get b with
 | none => rfl
 | some x => cases x <;> simp [and_assoc]
theorem apO_some {H : Heap} {e : TypeId} {n w k b m : Nat} {c cs : List AV} (h : c.length = m * n ∧ zos w m k = true) : apO e n w b m cs k H (some (.cells e c)) = some (.sl H.next 0 (m + k) n, (H.kill b).push (.cells e (c ++ cs))) := if_pos ⟨rfl, h⟩
theorem zco {w m k : Nat} (h1 : m + k ≤ 100000000) (h2 : w ≤ 10000) : zos w m k = true := by
 have : (2 * (m + k) + 200) * w ≤ (2 * 100000000 + 200) * 10000 := Nat.mul_le_mul (by omega) h2
 simp only [zos, Bool.and_eq_true, decide_eq_true_eq]
 omega
theorem leafs_map {α : Type} {f : α → AV} {l : List α} (h : ∀ x, zdf (f x) = true) : zbo (l.map f) = true := by
 simp [zbo, h]
theorem leafs_app {a b : List AV} : zbo (a ++ b) = (zbo a && zbo b) := by simp [zbo]
theorem flat_map {α : Type} {f : α → AV} {l : List α} (h : ∀ x, (f x).cells = [f x]) : (l.map f).flatMap AV.cells = l.map f := by
 induction l with
 | nil => rfl
 | cons x l ih => rw [List.map_cons, List.flatMap_cons, h, ih]; rfl
theorem yahh {sz : Nat} : ∀ (vs : List AV), (∀ x ∈ vs, x.cells.length = sz) → (vs.flatMap AV.cells).length = vs.length * sz
 | [], _ => by simp
 | x :: vs, h => by
  rw [List.flatMap_cons, List.length_append, h x (by simp), yahh vs (fun y hy => h y (by simp [hy])), List.length_cons, Nat.succ_mul, Nat.add_comm]
theorem mks_eq {H : Heap} {e : TypeId} {n w : Nat} {z : List AV} {l c : Int} (h : (decide (0 ≤ l) && decide (l ≤ c) && decide (w * c ≤ 70368744177664) && decide (c ≤ 9223372036854775807) && zbo z) = true) :
  mksK H e n w z (.int .i64 l) (.int .i64 c) = some (.sl H.next 0 l.toNat n, H.push (.cells e (zbu z l.toNat))) := if_pos h
theorem ent_nil {H : Heap} : entO H (.map none) = some [] := rfl
def entB (x : Option Blk) : Option (List (AV × AV × Nat)) := match x with | some (.map es _) => some es | _ => none
@[congr] theorem yaql {x x' : Option Blk} (h : x = x') : entB x = entB x' := by rw [h]
theorem entB_some {es : List (AV × AV × Nat)} {c : Nat} : entB (some (.map es c)) = some es := rfl
theorem ent_map {H : Heap} {b : Nat} : entO H (.map (some b)) = entB (H.get b) := rfl
theorem lk_some {kk : KK} {z k : AV} {ok : Bool} {es : List (AV × AV × Nat)} (h : kfit kk k = true) : lkK kk z k ok (some es) = lkR z ok (zdk k es 0) := if_pos h
theorem mu_map {kk : KK} {H : Heap} {b : Nat} {k v : AV} : muK kk H (.map (some b)) k v = muO kk H b k v (H.get b) := rfl
theorem mu_some {kk : KK} {H : Heap} {b c : Nat} {k v : AV} {es : List (AV × AV × Nat)} (h : kfit kk k = true) : muO kk H b k v (some (.map es c)) = muR H b k v es c (zdk k es 0) := if_pos h
theorem kf_int {k : IntKind} {n : Int} : kfit .int (.int k n) = true := rfl
theorem kf_str {s : ByteArray} : kfit .str (.str s) = true := rfl
theorem kf_bool {b : Bool} : kfit .bool (.bool b) = true := rfl
theorem evo_none {e : EV} : evO e none = some none := rfl
theorem evo_some {e : EV} {q : Q} : evO e (some q) = (q.ev e).map some := rfl
theorem brefs_map {es : List (AV × AV × Nat)} {c : Nat} : (Blk.map es c).refs = es.flatMap fun e => e.1.refs ++ e.2.1.refs := rfl
theorem bren_map {ρ : Nat → Nat} {es : List (AV × AV × Nat)} {c : Nat} : (Blk.map es c).ren ρ = .map (es.map fun e => (e.1.ren ρ, e.2.1.ren ρ, e.2.2)) c := rfl
variable {t : TypeId} {k k' : IntKind} {a b : Int}
theorem in_add : zdi P .add t (.int k a) (.int k b) = some (.int k (k.wrap (a + b))) := by simp only [zdi, if_true]; rfl
theorem in_sub : zdi P .sub t (.int k a) (.int k b) = some (.int k (k.wrap (a - b))) := by simp only [zdi, if_true]; rfl
theorem in_mul : zdi P .mul t (.int k a) (.int k b) = some (.int k (k.wrap (a * b))) := by simp only [zdi, if_true]; rfl
theorem in_quo (h : b ≠ 0) : zdi P .quo t (.int k a) (.int k b) = some (.int k (k.wrap (a.tdiv b))) := by simp only [zdi, if_true, zb8, h, if_false]
theorem in_rem (h : b ≠ 0) : zdi P .rem t (.int k a) (.int k b) = some (.int k (a.tmod b)) := by simp only [zdi, if_true, zb8, h, if_false]
theorem eqd (x y : Int) : (x == y) = decide (x = y) := by by_cases h : x = y <;> simp [h]
theorem ned (x y : Int) : (x != y) = !decide (x = y) := by by_cases h : x = y <;> simp [h]
theorem in_eql : zdi P .eql t (.int k a) (.int k b) = some (.bool (decide (a = b))) := by simp only [zdi, if_true, zb8, eqd]
theorem in_neq : zdi P .neq t (.int k a) (.int k b) = some (.bool (!decide (a = b))) := by simp only [zdi, if_true, zb8, ned]
theorem in_lss : zdi P .lss t (.int k a) (.int k b) = some (.bool (decide (a < b))) := by simp only [zdi, if_true]; rfl
theorem in_leq : zdi P .leq t (.int k a) (.int k b) = some (.bool (decide (a ≤ b))) := by simp only [zdi, if_true]; rfl
theorem in_gtr : zdi P .gtr t (.int k a) (.int k b) = some (.bool (decide (b < a))) := by simp only [zdi, if_true]; rfl
theorem in_geq : zdi P .geq t (.int k a) (.int k b) = some (.bool (decide (b ≤ a))) := by simp only [zdi, if_true]; rfl
theorem in_and : zdi P .and t (.int k a) (.int k b) = zb8 .and k a b := by simp only [zdi, if_true]
theorem in_or : zdi P .or t (.int k a) (.int k b) = zb8 .or k a b := by simp only [zdi, if_true]
theorem in_xor : zdi P .xor t (.int k a) (.int k b) = zb8 .xor k a b := by simp only [zdi, if_true]
theorem in_andNot : zdi P .andNot t (.int k a) (.int k b) = zb8 .andNot k a b := by simp only [zdi, if_true]
theorem in_shl : zdi P .shl t (.int k a) (.int k' b) = zdw .shl k a b := by simp only [zdi]
theorem in_shr : zdi P .shr t (.int k a) (.int k' b) = zdw .shr k a b := by simp only [zdi]
def sEq (x y : ByteArray) : Bool := x.data.toList == y.data.toList
theorem yafd {x y : ByteArray} : sEq x y = decide (x = y) := by
 by_cases h : x = y
 ·subst h; simp [sEq]
 ·have : ¬ x.data.toList = y.data.toList := fun e => h (by cases x; cases y; simp at e; rw [e])
  simp only [sEq, h, decide_false]
  exact beq_eq_false_iff_ne.2 this
theorem st_eql {x y : ByteArray} : zdi P .eql t (.str x) (.str y) = some (.bool (decide (x = y))) := by simp only [zdi, zf1]; rw [← yafd]; rfl
theorem st_neq {x y : ByteArray} : zdi P .neq t (.str x) (.str y) = some (.bool (!decide (x = y))) := by simp only [zdi, zf1]; rw [← yafd]; rfl
theorem bo_eql {x y : Bool} (h : P.underlying t = some .bool) : zdi P .eql t (.bool x) (.bool y) = some (.bool (x == y)) := by simp only [zdi, eqA, h]; rfl
theorem bo_neq {x y : Bool} (h : P.underlying t = some .bool) : zdi P .neq t (.bool x) (.bool y) = some (.bool (!(x == y))) := by simp only [zdi, eqA, h]; rfl
theorem yaqi {n : Int} (h : -9223372036854775808 ≤ n) (h' : n ≤ 9223372036854775807) : IntKind.i64.wrap n = n := by
 have e : IntKind.i64.wrap n = if n % 18446744073709551616 ≥ 9223372036854775808 then n % 18446744073709551616 - 18446744073709551616 else n % 18446744073709551616 := by
  simp [IntKind.wrap, IntKind.bits, IntKind.signed]
 rw [e]
 split <;> omega
theorem zdr {n : Int} (h : -9223372036854775808 ≤ n) (h' : n ≤ 9223372036854775807) : IntKind.i64.wrap n = n := yaqi h h'
theorem wi_nat {n : Nat} (h : n < 2 ^ 62) : IntKind.i64.wrap ((n : Int) + 1) = ((n + 1 : Nat) : Int) := by
 rw [zdr (by omega) (by omega)]; push_cast; rfl
theorem zbl {n : Nat} {Q : Nat → Prop} (hz : Q n) (hs : ∀ i, i < n → Q (i + 1) → Q i) : ∀ i, i ≤ n → Q i := by
 have key : ∀ d i, i + d = n → Q i := by
  intro d
  induction d with
  | zero => intro i h; rw [show i = n by omega]; exact hz
  | succ d ih => intro i h; exact hs i (by omega) (ih (i + 1) (by omega))
 exact fun i h => key (n - i) i (by omega)
theorem dlt_t {i n : Nat} (h : i < n) : decide ((i : Int) < (n : Int)) = true := decide_eq_true (by omega)
theorem dlt_f {n : Nat} : decide ((n : Int) < (n : Int)) = false := decide_eq_false (by omega)
theorem rf_int : (AV.int k a).rf = true := rfl
theorem rf_bool {b : Bool} : (AV.bool b).rf = true := rfl
theorem rf_str {s : ByteArray} : (AV.str s).rf = true := rfl
theorem rf_nilp : AV.nilp.rf = true := rfl
theorem rf_nili : AV.nili.rf = true := rfl
theorem rf_nilf : AV.nilf.rf = true := rfl
theorem rf_rsl {a : Option Addr} {c s : Nat} {l : List AV} : (AV.rsl a c s l).rf = true := rfl
theorem rf_rptr {a : Addr} {l : List AV} : (AV.rptr a l).rf = true := rfl
theorem rf_agg {l : List AV} : (AV.agg l).rf = AV.rfL l := rfl
theorem rf_tup {l : List AV} : (AV.tup l).rf = AV.rfL l := rfl
theorem rf_func {f : FuncId} {a b : List AV} : (AV.func f a b).rf = (AV.rfL a && AV.rfL b) := rfl
theorem rf_ptr {b o : Nat} : (AV.ptr b o).rf = false := rfl
theorem rf_sl {b i n s : Nat} : (AV.sl b i n s).rf = false := rfl
theorem rfL_nil : AV.rfL [] = true := rfl
theorem rfL_cons {v : AV} {l : List AV} : AV.rfL (v :: l) = (v.rf && AV.rfL l) := rfl
end
end Go.Ab
