/- What the law's proof leans on, part 14. Conditions: in each statement. -/
import Derived.Test.YtcfcphhamfhfcaaGreatDoorQVS
set_option linter.all false
set_option linter.unusedSimpArgs false
set_option linter.unusedVariables false
set_option linter.unusedSectionVars false
namespace Go.Ab
open Go
theorem zz4 {c a b : Bool} : (bif c then a else (a && b)) = (a && (c || b)) := by cases c <;> cases a <;> rfl
theorem wi_1 : IntKind.i64.wrap 1 = 1 := rfl
theorem wi_2 : IntKind.i64.wrap 2 = 2 := rfl
def kc : K → Nat
 | .mv .. => 0
 | .pick .. => 0
 | .nz .. => 0
 | .bin .. => 0
 | .un .. => 0
 | .fa .. => 0
 | .fld .. => 0
 | .ixs .. => 0
 | .six .. => 0
 | .ext .. => 0
 | .mkf .. => 0
 | .bld .. => 0
 | .new .. => 1
 | .box .. => 1
 | .bsl .. => 1
 | .mks .. => 1
 | .mkm .. => 1
 | .ld .. => 2
 | .lens .. => 2
 | .lenl .. => 2
 | .cvt .. => 2
 | .lk .. => 2
 | .slc .. => 2
 | .ssl .. => 2
 | .cvs .. => 2
 | .mx .. => 2
 | .mn .. => 2
 | .st .. => 3
 | .call .. => 3
 | .callv .. => 3
 | .app .. => 3
 | .mu .. => 3
 | .raw _ => 3
theorem yazm {x : Q} : kc (.mv x) = 0 := by simp only [kc]
theorem yagk {c a b : Q} : kc (.pick c a b) = 0 := by simp only [kc]
theorem yapa {t : TypeId} {z : List AV} : kc (.new t z) = 1 := by simp only [kc]
theorem yao0 {t : TypeId} {n : Nat} {x : Q} : kc (.box t n x) = 1 := by simp only [kc]
theorem yazi {n : Option Nat} {x : Q} : kc (.ld n x) = 2 := by simp only [kc]
theorem yazp {n : Nat} {a x : Q} : kc (.st n a x) = 3 := by simp only [kc]
theorem yazo {x : Q} : kc (.nz x) = 0 := by simp only [kc]
theorem yaoy {op : BinOp} {t : TypeId} {x y : Q} : kc (.bin op t x y) = 0 := by simp only [kc]
theorem yazq {op : UnOp} {x : Q} : kc (.un op x) = 0 := by simp only [kc]
theorem yazh {off : Nat} {x : Q} : kc (.fa off x) = 0 := by simp only [kc]
theorem yao5 {off : Nat} {n : Option Nat} {x : Q} : kc (.fld off n x) = 0 := by simp only [kc]
theorem yao6 {sz : Nat} {x i : Q} : kc (.ixs sz x i) = 0 := by simp only [kc]
theorem yapb {x i : Q} : kc (.six x i) = 0 := by simp only [kc]
theorem yagj {x : Q} : kc (.lens x) = 2 := by simp only [kc]
theorem yagi {x : Q} : kc (.lenl x) = 2 := by simp only [kc]
theorem yagh {f : FuncId} {args : List Q} : kc (.call f args) = 3 := by simp only [kc]
theorem yaap {f : Q} {args : List Q} : kc (.callv f args) = 3 := by simp only [kc]
theorem yao4 {i : Nat} {x : Q} : kc (.ext i x) = 0 := by simp only [kc]
theorem yao3 {k : IntKind} {x : Q} : kc (.cvt k x) = 2 := by simp only [kc]
theorem yao7 {f : FuncId} {first cap : List Q} : kc (.mkf f first cap) = 0 := by simp only [kc]
theorem yaoz {z : List AV} {ps : List (Nat × Nat)} {parts : List (Nat × Q)} : kc (.bld z ps parts) = 0 := by simp only [kc]
theorem yaox {e : TypeId} {n w ce : Nat} {s x : Q} : kc (.app e n w ce s x) = 3 := by simp only [kc]
theorem yao9 {e : TypeId} {n w : Nat} {z : List AV} {l c : Q} : kc (.mks e n w z l c) = 1 := by simp only [kc]
theorem yao8 {x : Option Q} : kc (.mkm x) = 1 := by simp only [kc]
theorem yazj {kk : KK} {z : AV} {m k : Q} {ok : Bool} : kc (.lk kk z m k ok) = 2 := by simp only [kc]
theorem yazl {kk : KK} {m k x : Q} : kc (.mu kk m k x) = 3 := by simp only [kc]
theorem yapc {n : Nat} {x : Q} {lo hi : Option Q} : kc (.slc n x lo hi) = 2 := by simp only [kc]
theorem yapd {x : Q} {lo hi : Option Q} : kc (.ssl x lo hi) = 2 := by simp only [kc]
theorem yao2 {x : Q} : kc (.cvs x) = 2 := by simp only [kc]
theorem yazn {x : Q} {l : List Q} : kc (.mx x l) = 2 := by simp only [kc]
theorem yazk {x : Q} {l : List Q} : kc (.mn x l) = 2 := by simp only [kc]
theorem yao1 {t : TypeId} {s : Nat} {z : List AV} {len : Nat} {parts : List (Nat × Q)} : kc (.bsl t s z len parts) = 1 := by simp only [kc]
section
variable [E : Env] {P : Program} {ex : ExF}
def yaed (H : Heap) (r : Option (AV × Heap)) : Prop := ∀ v V, r = some (v, V) → V = H
theorem yadr {H : Heap} {x : Option AV} : yaed H (same H x) := by
 intro v V h; cases x with
 | none => cases h
 | some a => cases h; rfl
theorem yads {H : Heap} {x : AV} : yaed H (some (x, H)) := by intro v V h; cases h; rfl
theorem yadq {α : Type} {H : Heap} {x : Option α} {f : α → Option (AV × Heap)} (h : ∀ a, yaed H (f a)) : yaed H (x.bind f) := by
 intro v V hr; cases x with
 | none => cases hr
 | some a => exact h a v V hr
theorem yagg {k : K} {e : EV} {H : Heap} (h : kc k = 0 ∨ kc k = 2) : yaed H (kA P ex e H k) := by
 cases k <;> simp [kc] at h <;> simp only [kA] <;> (repeat (first | exact yadr | exact yads | refine yadq fun _ => ?_))
noncomputable def KP (P : Program) (W : Nat → List Nat) (i : Nat) (rest : List (O × List Nat × List Nat)) (e : EV) (d : Option Nat) (hl : List Nat) (H : Heap) (kept : List (Nat × Nat × Nat)) (v : AV) (V : Heap) : Ry :=
 if W i = [] ∧ v.all (vis hl) = true then L2 P W (i + 1) rest (zdu e d v) H kept else KF P W i rest e d hl H kept v V
noncomputable def KQ (P : Program) (W : Nat → List Nat) (i : Nat) (rest : List (O × List Nat × List Nat)) (e : EV) (d : Option Nat) (hl : List Nat) (H : Heap) (kept : List (Nat × Nat × Nat)) (v : AV) (V : Heap) : Ry :=
 if W i = [] ∧ v.all (vis hl) = true then L2 P W (i + 1) rest (zdu e d v) (zxn (zct H hl) H hl) kept else KV P W i rest e d hl H kept v V
variable {i : Nat} {W : Nat → List Nat} {us bs hl : List Nat} {rest : List (O × List Nat × List Nat)} {e : EV} {d : Option Nat} {k : K} {v : AV} {H V : Heap} {kept : List (Nat × Nat × Nat)} {u : Unit}
theorem zl8 : ∀ {l : List Nat} {H : Heap}, (zct H l).next = H.next
 | [], H => rfl
 | b :: l, H => by rw [zct, zl8]; rfl
theorem zt2 : ∀ {l : List Nat} {H : Heap} {j : Nat}, (zct H l).get j = if l.contains j then none else H.get j
 | [], H, j => by simp [zct]
 | b :: l, H, j => by
  rw [zct, zt2, Heap.get_kill]
  by_cases h : j = b
  ·subst h; simp
  ·simp [h]
theorem yahh {r : Option (AV × Heap)} {f g : AV → Heap → Ry} (h : ∀ v V, r = some (v, V) → f v V = g v V) : opr r f = opr r g := by
 cases r with
 | none => rfl
 | some q => obtain ⟨v, V⟩ := q; exact h v V rfl
theorem yals (hw : W i = []) (hv : v.all (vis hl) = true) : LOk hl (W i) H (zct H hl) v := by
 refine ⟨by rw [zl8]; exact Nat.le_refl _, fun hb b x hx => ?_, hv, by simp [hw], fun b _ _ hb => by rw [zt2, hb]; rfl, fun b x hb hx => ?_⟩
 ·rw [zt2] at hx; rw [zl8]
  split at hx
  ·cases hx
  ·exact hb b x hx
 ·rw [zl8, hw] at hb
  rcases hb with hb | hb
  ·cases hb
  ·omega
theorem ul_0 (h : kc k = 0) : UL P W i k us bs rest e d H kept hl u = opr (kA P (om P) e H k) (KP P W i rest e d hl H kept) := by
 have hf : zf2 k = true := by cases k <;> simp [kc] at h <;> rfl
 rw [ul_free hf]
 refine yahh fun v V hr => ?_
 obtain rfl := yagg (.inl h) v V hr
 unfold KP
 split
 ·rename_i hc
  have hl0 : LOk hl (W i) V V v := ⟨Nat.le_refl _, fun hb => hb, hc.2, by simp [hc.1], fun _ _ _ _ => rfl, fun b x hb _ => by
   rw [hc.1] at hb
   rcases hb with hb | hb
   ·cases hb
   ·omega⟩
  unfold KF
  rw [if_pos (@decide_eq_true _ (_) hl0), if_pos rfl]
 ·rfl
theorem ul_1 (h : kc k = 1) : UL P W i k us bs rest e d H kept hl u = opr (kA P (om P) e H k) (KF P W i rest e d hl H kept) :=
 ul_free (by cases k <;> simp [kc] at h <;> rfl)
theorem ul_2 (h : kc k = 2) : UL P W i k us bs rest e d H kept hl u = opr (kA P (om P) e (zct H hl) k) (KQ P W i rest e d hl H kept) := by
 have hf : zf2 k = false := by cases k <;> simp [kc] at h <;> rfl
 rw [ul_view hf]
 refine yahh fun v V hr => ?_
 obtain rfl := yagg (.inr h) v V hr
 unfold KQ
 split
 ·rename_i hc
  unfold KV
  rw [if_pos (@decide_eq_true _ (_) (yals hc.1 hc.2)), if_pos zl8]
 ·rfl
theorem ul_3 (h : kc k = 3) (hf : zf2 k = false) : UL P W i k us bs rest e d H kept hl u = opr (kA P (om P) e (zct H hl) k) (KV P W i rest e d hl H kept) := ul_view hf
theorem yazr (hw : W i = []) (hv : v.all (vis hl) = true) : KP P W i rest e d hl H kept v V = L2 P W (i + 1) rest (zdu e d v) H kept := if_pos ⟨hw, hv⟩
theorem yazs (hw : W i = []) (hv : v.all (vis hl) = true) : KQ P W i rest e d hl H kept v V = L2 P W (i + 1) rest (zdu e d v) (zxn (zct H hl) H hl) kept := if_pos ⟨hw, hv⟩
end
theorem yaph {n : Nat} {a x : Q} : zf2 (.st n a x) = false := by simp only [zf2]
theorem yaaq {f : FuncId} {args : List Q} : zf2 (.call f args) = false := by simp only [zf2]
theorem zwi {f : Q} {args : List Q} : zf2 (.callv f args) = false := by simp only [zf2]
theorem yagl {e : TypeId} {n w ce : Nat} {s x : Q} : zf2 (.app e n w ce s x) = false := by simp only [zf2]
theorem yapg {kk : KK} {m k x : Q} : zf2 (.mu kk m k x) = false := by simp only [zf2]
def hinV (H : Heap) (x : Option AV) : List Nat := (ze2 H 100000 (match x with | some v => v.refs | none => []) []).getD []
@[congr] theorem yav0 {H : Heap} {x x' : Option AV} (h : x = x') : hinV H x = hinV H x' := by rw [h]
theorem zv8 {H : Heap} {v : AV} : hinV H (some v) = (ze2 H 100000 v.refs []).getD [] := rfl
def noW : Nat → List Nat := fun _ => []
theorem yaal {e : EV} {H : Heap} : zf1 [] e H = noW := rfl
theorem yapu {i : Nat} : noW i = [] := rfl
theorem yaaf {l : List Nat} : l.flatMap noW = [] := by induction l with | nil => rfl | cons a l ih => rw [List.flatMap_cons, ih]; rfl
theorem yaf6 {e : EV} {H : Heap} {j : Nat} : zf1 [] e H j = [] := rfl
theorem yaf7 {e : EV} {H : Heap} {i t j : Nat} {h : List (Nat × Nat)} : zf1 ((i, t) :: h) e H j = (if i = j then hinV H (e.look t) else []) ++ zf1 h e H j := rfl
theorem getD_some {α : Type} {a b : α} : (some a).getD b = a := rfl
theorem yaor {W : Nat → List Nat} {us ns : List Nat} {n : Nat} {kept : List (Nat × Nat × Nat)} : hid2 W us ns n kept = (us.flatMap W ++ kept.flatMap fun q => if ns.contains q.1 then List.range' q.2.1 q.2.2 else []).filter fun b => decide (b < n) := rfl
theorem ya1d {s : Nat} : List.range' s 0 = [] := rfl
theorem ya1e {s n : Nat} : List.range' s (n + 1) = s :: List.range' (s + 1) n := rfl
theorem yagt {hl W : List Nat} {H V : Heap} {v : AV} : lokB hl W H V v = (H.next ≤ V.next ∧ V.l.length ≤ V.next ∧ v.all (vis hl) = true ∧ (W.all fun b => decide (b < H.next) && !hl.contains b) = true ∧ zy2 W hl H V H.next ∧ newB W hl H V V.next) := rfl
theorem yah9 {W hl : List Nat} {H V : Heap} : zy2 W hl H V 0 = True := rfl
theorem yaia {W hl : List Nat} {H V : Heap} {n : Nat} : zy2 W hl H V (n + 1) = ((W.contains n = true ∨ hl.contains n = true ∨ V.get n = H.get n) ∧ zy2 W hl H V n) := rfl
theorem yapq {W hl : List Nat} {H V : Heap} : newB W hl H V 0 = True := rfl
theorem yapr {W hl : List Nat} {H V : Heap} {n : Nat} : newB W hl H V (n + 1) = (((n < H.next ∧ W.contains n = false) ∨ yamw (vis hl) (V.get n) = true) ∧ newB W hl H V n) := rfl
theorem zsp {p : Nat → Bool} {x : Blk} : yamw p (some x) = x.all p := rfl
theorem zso {p : Nat → Bool} : yamw p none = true := rfl
theorem yaqu {hl : List Nat} {b : Nat} : vis hl b = !hl.contains b := rfl
section
variable {p : Nat → Bool}
theorem zr4 {t : TypeId} {c : List AV} : (Blk.cells t c).all p = AV.allL p c := rfl
theorem zzr {es : List (AV × AV × Nat)} {k : Nat} : (Blk.map es k).all p = es.all fun e => e.1.all p && e.2.1.all p := rfl
theorem all_nil : AV.allL p [] = true := rfl
theorem all_cons {v : AV} {l : List AV} : AV.allL p (v :: l) = (v.all p && AV.allL p l) := rfl
theorem yaen {k : IntKind} {n : Int} : (AV.int k n).all p = true := rfl
theorem zzk {b : Bool} : (AV.bool b).all p = true := rfl
theorem yaer {s : ByteArray} : (AV.str s).all p = true := rfl
theorem yaeq {a : Option Addr} {c s : Nat} {l : List AV} : (AV.rsl a c s l).all p = true := rfl
theorem zzn {a : Addr} {l : List AV} : (AV.rptr a l).all p = true := rfl
theorem yaep {b o : Nat} : (AV.ptr b o).all p = p b := rfl
theorem yan2 {b i n s : Nat} : (AV.sl b i n s).all p = p b := rfl
theorem yael {l : List AV} : (AV.agg l).all p = AV.allL p l := rfl
theorem yaes {l : List AV} : (AV.tup l).all p = AV.allL p l := rfl
theorem zzl : (AV.map none).all p = true := rfl
theorem yaeo {b : Nat} : (AV.map (some b)).all p = p b := rfl
theorem zzm : AV.nilp.all p = true := rfl
theorem zs1 {α : Type} {f : α → AV} {l : List α} (h : ∀ x, (f x).all p = true) : AV.allL p (l.map f) = true := by
 induction l with
 | nil => rfl
 | cons x l ih => rw [List.map_cons, all_cons, h, ih]; rfl
theorem zzg {a b : List AV} : AV.allL p (a ++ b) = (AV.allL p a && AV.allL p b) := by
 induction a with
 | nil => rfl
 | cons x a ih => rw [List.cons_append, all_cons, all_cons, ih, Bool.and_assoc]
theorem zzi {l : List ByteArray} : AV.allL p (l.map AV.str) = true := zs1 fun _ => rfl
end
section
variable [E : Env]
theorem zw2 {l : List ByteArray} : AV.refsL (l.map AV.str) = [] := refsL_map fun _ => rfl
theorem yabh {ρ : Nat → Nat} {l : List ByteArray} : AV.renL ρ (l.map AV.str) = l.map AV.str := renL_map fun _ => rfl
theorem zwl {l : List ByteArray} : zby (l.map AV.str) = true := leafs_map fun _ => rfl
theorem yah2 {l : List ByteArray} : AV.rfL (l.map AV.str) = true := by
 induction l with
 | nil => rfl
 | cons x l ih => rw [List.map_cons, rfL_cons, ih]; rfl
end
section
variable [E : Env] {P : Program} {fn : FuncId} {pin : Nat}
def rgz (env : EV) (m : List Nat) (H : Heap) (n : Nat) (x : Option Blk) : Rx := match x with
 | some (.loop st pend _ _ _ _ _ _) => if st = .busy then none else match pend with
  | none => some (.normal, ⟨env, m, H.kill n⟩)
  | some .ret => some (.ret, ⟨env, m, H.kill n⟩)
  | some (.exit id) => some (.exit id, ⟨env, m, H.kill n⟩)
  | _ => none
 | _ => none
@[congr] theorem ya00 {env : EV} {m : List Nat} {H : Heap} {n : Nat} {x x' : Option Blk} (h : x = x') : rgz env m H n x = rgz env m H n x' := by rw [h]
section
variable {env te : EV} {m : List Nat} {H : Heap} {n f d i : Nat} {ps : List Tmp} {a b : Code}
theorem yap2 : rgz env m H n (some (.loop .ready none f te ps a b d)) = some (.normal, ⟨env, m, H.kill n⟩) := rfl
theorem yap0 : rgz env m H n (some (.loop .done none f te ps a b d)) = some (.normal, ⟨env, m, H.kill n⟩) := rfl
theorem yap1 : rgz env m H n (some (.loop .done (some .ret) f te ps a b d)) = some (.ret, ⟨env, m, H.kill n⟩) := rfl
theorem yapz : rgz env m H n (some (.loop .done (some (.exit i)) f te ps a b d)) = some (.exit i, ⟨env, m, H.kill n⟩) := rfl
end
theorem yabo {env : EV} {m : List Nat} {H : Heap} {n : Nat} {c : Bool} {x y : Blk} : rgz env m H n (some (bif c then x else y)) = bif c then rgz env m H n (some x) else rgz env m H n (some y) := by cases c <;> rfl
def rga (env : EV) (m : List Nat) (n : Nat) (r : Rv) : Rx := match r with | some (_, H) => rgz env m H n (H.get n) | none => none
@[congr] theorem ya0y {env : EV} {m : List Nat} {n : Nat} {r r' : Rv} (h : r = r') : rga env m n r = rga env m n r' := by rw [h]
theorem yabm {env : EV} {m : List Nat} {n : Nat} {v : AV} {H : Heap} : rga env m n (some (v, H)) = rgz env m H n (H.get n) := rfl
theorem yabl {env : EV} {m : List Nat} {n : Nat} {c : Bool} {x y : Rv} : rga env m n (bif c then x else y) = bif c then rga env m n x else rga env m n y := by cases c <;> rfl
noncomputable def rgf (P : Program) (fn : FuncId) (env : EV) (m : List Nat) (H : Heap) (ps : List Tmp) (a b : Code) (f : Option AV) : Rx := match f with
 | some (.func g first cap) => rga env (H.next :: m) (H.next + 1) (zlo P (om P) 0 g (first ++ [AV.yieldf (H.next + 1)] ++ cap) ((H.push .dfr).push (.loop .ready none fn env ps a b H.next)))
 | _ => none
@[congr] theorem ya0z {env : EV} {m : List Nat} {H : Heap} {ps : List Tmp} {a b : Code} {f f' : Option AV} (h : f = f') : rgf P fn env m H ps a b f = rgf P fn env m H ps a b f' := by rw [h]
theorem yabn {env : EV} {m : List Nat} {H : Heap} {ps : List Tmp} {a b : Code} {g : FuncId} {first cap : List AV} : rgf P fn env m H ps a b (some (.func g first cap)) = rga env (H.next :: m) (H.next + 1) (zlo P (om P) 0 g (first ++ [AV.yieldf (H.next + 1)] ++ cap) ((H.push .dfr).push (.loop .ready none fn env ps a b H.next))) := rfl
theorem yaa6 {f : Operand} {ps : Array Tmp} {a b : Code} {st : St} : om P ⟨fn, none⟩ pin (.rangeFunc f ps a b) st = rgf P fn st.env st.marks st.H ps.toList a b (za7 st.env f) := by
 rw [zrx]
 simp only [zc9, zft]
 cases za7 st.env f with
 | none => rfl
 | some v =>
  cases v <;> rfl
def rk5 (j : Option Code) (l : Nat) (H : Heap) (x : Option Blk) : Rv := match x with
 | some (.loop .busy _ fn tmps params assign body d) => some (.bool j.isNone, H.set l (.loop (if j.isNone then .ready else .done) j fn tmps params assign body d))
 | _ => none
@[congr] theorem ya1a {j : Option Code} {l : Nat} {H : Heap} {x x' : Option Blk} (h : x = x') : rk5 j l H x = rk5 j l H x' := by rw [h]
theorem ya1b {l f d : Nat} {H : Heap} {p : Option Code} {te : EV} {ps : List Tmp} {a b : Code} : rk5 none l H (some (.loop .busy p f te ps a b d)) = some (.bool true, H.set l (.loop .ready none f te ps a b d)) := rfl
theorem ya1c {l f d : Nat} {H : Heap} {c : Code} {p : Option Code} {te : EV} {ps : List Tmp} {a b : Code} : rk5 (some c) l H (some (.loop .busy p f te ps a b d)) = some (.bool false, H.set l (.loop .done (some c) f te ps a b d)) := rfl
theorem zis {H : Heap} {l : Nat} {j : Option Code} : zde H l j = rk5 j l H (H.get l) := by
 unfold zde rk5
 cases H.get l with
 | none => rfl
 | some x =>
  cases x <;> rfl
def rk4 (l : Nat) (r : Rx) : Rv := match r with
 | some (.normal, ⟨_, [], H⟩) => zde H l none
 | some (.ret, ⟨_, [], H⟩) => zde H l (some .ret)
 | some (.exit id, ⟨_, [], H⟩) => zde H l (some (.exit id))
 | _ => none
@[congr] theorem ya06 {l : Nat} {r r' : Rx} (h : r = r') : rk4 l r = rk4 l r' := by rw [h]
theorem ya08 {l : Nat} {e : EV} {H : Heap} : rk4 l (some (.normal, ⟨e, [], H⟩)) = rk5 none l H (H.get l) := zis
theorem ya09 {l : Nat} {e : EV} {H : Heap} : rk4 l (some (.ret, ⟨e, [], H⟩)) = rk5 (some .ret) l H (H.get l) := zis
theorem ya07 {l i : Nat} {e : EV} {H : Heap} : rk4 l (some (.exit i, ⟨e, [], H⟩)) = rk5 (some (.exit i)) l H (H.get l) := zis
theorem yabs {l : Nat} {c : Bool} {x y : Rx} : rk4 l (bif c then x else y) = bif c then rk4 l x else rk4 l y := by cases c <;> rfl
noncomputable def rk3 (P : Program) (fn : FuncId) (l : Nat) (body : Code) (env : EV) (H : Heap) (x : Option Blk) : Rv := match x with
 | some (.loop .ready pend fn1 tmps1 params1 assign1 body1 d1) => rk4 l (om P ⟨fn, some l⟩ H.next body ⟨env, [], H.set l (.loop .busy pend fn1 tmps1 params1 assign1 body1 d1)⟩)
 | _ => none
@[congr] theorem ya05 {l : Nat} {body : Code} {env : EV} {H : Heap} {x x' : Option Blk} (h : x = x') : rk3 P fn l body env H x = rk3 P fn l body env H x' := by rw [h]
theorem yabr {l f d : Nat} {body : Code} {env : EV} {H : Heap} {p : Option Code} {te : EV} {ps : List Tmp} {a b : Code} : rk3 P fn l body env H (some (.loop .ready p f te ps a b d)) = rk4 l (om P ⟨fn, some l⟩ H.next body ⟨env, [], H.set l (.loop .busy p f te ps a b d)⟩) := rfl
noncomputable def rk2 (P : Program) (fn : FuncId) (l : Nat) (body : Code) (r : Rx) : Rv := match r with
 | some (.normal, ⟨env, [], H⟩) => rk3 P fn l body env H (H.get l)
 | _ => none
@[congr] theorem ya03 {l : Nat} {body : Code} {r r' : Rx} (h : r = r') : rk2 P fn l body r = rk2 P fn l body r' := by rw [h]
theorem ya04 {l : Nat} {body : Code} {env : EV} {H : Heap} : rk2 P fn l body (some (.normal, ⟨env, [], H⟩)) = rk3 P fn l body env H (H.get l) := rfl
noncomputable def rk1 (P : Program) (fn : FuncId) (l : Nat) (assign body : Code) (H : Heap) (r : Option EV) : Rv := match r with
 | some env => rk2 P fn l body (om P ⟨fn, some l⟩ H.next assign ⟨env, [], H⟩)
 | none => none
@[congr] theorem ya02 {l : Nat} {a b : Code} {H : Heap} {r r' : Option EV} (h : r = r') : rk1 P fn l a b H r = rk1 P fn l a b H r' := by rw [h]
theorem yabq {l : Nat} {a b : Code} {H : Heap} {e : EV} : rk1 P fn l a b H (some e) = rk2 P fn l b (om P ⟨fn, some l⟩ H.next a ⟨e, [], H⟩) := rfl
noncomputable def rk0 (P : Program) (l : Nat) (args : List AV) (H : Heap) (x : Option Blk) : Rv := match x with
 | some (.loop _ _ fn tmps params assign body _) => rk1 P fn l assign body H (zch tmps params args)
 | _ => none
@[congr] theorem ya01 {l : Nat} {args : List AV} {H : Heap} {x x' : Option Blk} (h : x = x') : rk0 P l args H x = rk0 P l args H x' := by rw [h]
theorem yabp {l f d : Nat} {args : List AV} {H : Heap} {s : LoopState} {p : Option Code} {te : EV} {ps : List Tmp} {a b : Code} : rk0 P l args H (some (.loop s p f te ps a b d)) = rk1 P f l a b H (zch te ps args) := rfl
theorem yahk {e : EV} : zch e [] [] = some e := rfl
theorem yaa7 {e : EV} {t : Tmp} {ts : List Tmp} {v : AV} {vs : List AV} : zch e (t :: ts) (v :: vs) = zch (e.set t v) ts vs := rfl
theorem zpn {l : Nat} {args : List AV} {H : Heap} : znc P (om P) 0 (.yieldf l) args H = rk0 P l args H (H.get l) := by
 simp only [znc, zob]
 generalize H.get l = x
 cases x with
 | none => rfl
 | some x =>
  cases x <;> try rfl
  rename_i fn tmps params assign body d
  simp only [rk0, Nat.zero_le, if_true]
  cases zch tmps params args with
  | none => rfl
  | some env =>
   simp only [rk1]
   generalize om P ⟨fn, some l⟩ H.next assign ⟨env, [], H⟩ = r
   cases r with
   | none => rfl
   | some q =>
    obtain ⟨x, ⟨e, m, K⟩⟩ := q
    cases x <;> cases m <;> rfl
def drm (b : Nat) (bs : List Nat) (H : Heap) (x : Option Blk) : Option Heap := match x with | some .dfr => zbx (H.kill b) bs | _ => none
@[congr] theorem yays {b : Nat} {bs : List Nat} {H : Heap} {x x' : Option Blk} (h : x = x') : drm b bs H x = drm b bs H x' := by rw [h]
theorem zz7 {b : Nat} {bs : List Nat} {H : Heap} : drm b bs H (some .dfr) = zbx (H.kill b) bs := rfl
theorem zls {H : Heap} : zbx H [] = some H := rfl
theorem zkj {b : Nat} {bs : List Nat} {H : Heap} : zbx H (b :: bs) = drm b bs H (H.get b) := rfl
def fid (P : Program) (pin : Nat) (rs : List ResultVar) (env : EV) (r : Option Heap) : Rv := match r with | some H => finv pin H (zbq P H env rs) | none => none
@[congr] theorem yay2 {rs : List ResultVar} {env : EV} {r r' : Option Heap} (h : r = r') : fid P pin rs env r = fid P pin rs env r' := by rw [h]
theorem yaaa {rs : List ResultVar} {env : EV} {H : Heap} : fid P pin rs env (some H) = finv pin H (zbq P H env rs) := rfl
theorem yaad {rs : List ResultVar} {env : EV} {H : Heap} {d : Nat} {m : List Nat} : fin P pin rs (some (.ret, ⟨env, d :: m, H⟩)) = fid P pin rs env (zbx H (d :: m)) := by
 simp only [fin, fid]; cases zbx H (d :: m) <;> rfl
theorem zp0 {rs : List ResultVar} {env : EV} {H : Heap} {d : Nat} {m : List Nat} : fin P pin rs (some (.normal, ⟨env, d :: m, H⟩)) = fid P pin rs env (zbx H (d :: m)) := by
 simp only [fin, fid]; cases zbx H (d :: m) <;> rfl
theorem zr7 {s : LoopState} {p : Option Code} {f d : Nat} {te : EV} {ps : List Tmp} {a b : Code} : (Blk.loop s p f te ps a b d).refs = AV.refsL (vals te.s) ++ [d] := rfl
theorem zvh {ρ : Nat → Nat} {s : LoopState} {p : Option Code} {f d n : Nat} {te : List (Nat × AV)} {ps : List Tmp} {a b : Code} : (Blk.loop s p f ⟨n, te⟩ ps a b d).ren ρ = .loop s p f ⟨n, renE ρ te⟩ ps a b (ρ d) := rfl
theorem zvf : Blk.dfr.refs = [] := rfl
theorem zzv {ρ : Nat → Nat} : Blk.dfr.ren ρ = .dfr := rfl
theorem zva {q : Nat → Bool} {s : LoopState} {p : Option Code} {f d : Nat} {te : EV} {ps : List Tmp} {a b : Code} : (Blk.loop s p f te ps a b d).all q = (AV.allL q (vals te.s) && q d) := rfl
theorem zzq {q : Nat → Bool} : Blk.dfr.all q = true := rfl
end
section
variable [E : Env] {P : Program} {ex : ExF}
theorem yapv {e : EV} {H : Heap} {t : TypeId} {x i : Operand} {d : Option Tmp} {ty : TypeId} {pos : String} {af : Array Edge} {g : Option (Nat × Bool)} : opA P ex 0 e H ⟨d, .indexAddr t x i, ty, pos, af, g⟩ = (za7 e x).bind fun x => (za7 e i).bind fun i => same H (zce P t x i) := by
 simp only [opA, aop]
 cases za7 e x with
 | none => rfl
 | some x =>
  cases za7 e i with
  | none => rfl
  | some i => simp only [Option.bind_some]; cases zce P t x i <;> rfl
noncomputable def rcl (P : Program) (H : Heap) (e : EV) (a : Nat) (t : TypeId) (l : List ResultVar) (x : Option (Option Nat)) : Option (List AV) := match x with
 | some n => res2 ((e.look a).bind (ldA H n)) (zbq P H e l)
 | none => zbq P H e (.cell a t :: l)
@[congr] theorem ya0s {H : Heap} {e : EV} {a : Nat} {t : TypeId} {l : List ResultVar} {x x' : Option (Option Nat)} (h : x = x') : rcl P H e a t l x = rcl P H e a t l x' := by rw [h]
theorem yabc {H : Heap} {e : EV} {a : Nat} {t : TypeId} {l : List ResultVar} {n : Option Nat} : rcl P H e a t l (some n) = res2 ((e.look a).bind (ldA H n)) (zbq P H e l) := rfl
theorem yabj {H : Heap} {e : EV} {a : Nat} {t : TypeId} {l : List ResultVar} : zbq P H e (.cell a t :: l) = rcl P H e a t l (zs0 P t) := by
 cases h : zs0 P t with
 | none => rfl
 | some n =>
  simp only [zbq, rcl, res2]
  cases e.look a with
  | none => rfl
  | some v =>
   simp only [Option.bind_some, yaeh h]
   cases ldA H n v <;> cases zbq P H e l <;> rfl
theorem ya9p {t : TypeId} {x i : Operand} : kc (.raw (.indexAddr t x i)) = 3 := by simp only [kc]
theorem yapf {t : TypeId} {x i : Operand} : zf2 (.raw (.indexAddr t x i)) = true := by simp only [zf2, zgc]
theorem yaom {e : EV} {t : Nat} : za7 e (.tmp t) = e.look t := rfl
theorem yafq {e : EV} {g : Nat} : za7 e (.global g) = E.glob g := rfl
theorem ya4u {t : TypeId} {n e s : Nat} {a : Addr} {cs : List AV} {k : IntKind} {i : Int} (hu : P.underlying t = some (.array n e)) (hs : zbl P e = some s) (hi : (decide (0 ≤ i) && decide (i < n)) = true) : zce P t (.rptr a cs) (.int k i) = some (.rptr (a.add (i.toNat * s)) (cs.drop (i.toNat * s))) := by
 simp only [zce, hu, hs, hi, if_true]
end
theorem zr6 {c : Bool} {x y : Blk} : (bif c then x else y).refs = bif c then x.refs else y.refs := by cases c <;> rfl
theorem zvg {c : Bool} {x y : Blk} {ρ : Nat → Nat} : (bif c then x else y).ren ρ = bif c then x.ren ρ else y.ren ρ := by cases c <;> rfl
end Go.Ab
