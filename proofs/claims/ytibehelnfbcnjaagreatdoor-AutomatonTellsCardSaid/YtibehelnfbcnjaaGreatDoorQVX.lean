/- What the law's proof leans on, part 14. Conditions: in each statement. -/
import Derived.Test.YtibehelnfbcnjaaGreatDoorQVS
set_option linter.all false
set_option linter.unusedSimpArgs false
set_option linter.unusedVariables false
set_option linter.unusedSectionVars false
namespace Go.Ab
open Go
theorem zxq {c a b : Bool} : (bif c then a else (a && b)) = (a && (c || b)) := by cases c <;> cases a <;> rfl
theorem wi_1 : IntKind.i64.wrap 1 = 1 := rfl
theorem wi_2 : IntKind.i64.wrap 2 = 2 := rfl
def kc : K → Nat
 | .mv .. => 0
 | .pick .. => 0
 | .nz .. => 0
 | .bin .. => 0
 | .un .. => 0
 | .fa .. => 0
 | .fld .. => 0
 | .ixs .. => 0
 | .six .. => 0
 | .ext .. => 0
 | .mkf .. => 0
 | .bld .. => 0
 | .new .. => 1
 | .box .. => 1
 | .bsl .. => 1
 | .mks .. => 1
 | .mkm .. => 1
 | .ld .. => 2
 | .lens .. => 2
 | .lenl .. => 2
 | .cvt .. => 2
 | .lk .. => 2
 | .slc .. => 2
 | .ssl .. => 2
 | .cvs .. => 2
 | .mx .. => 2
 | .mn .. => 2
 | .st .. => 3
 | .call .. => 3
 | .callv .. => 3
 | .app .. => 3
 | .mu .. => 3
 | .raw _ => 3
theorem yato {x : Q} : kc (.mv x) = 0 := by simp only [kc]
theorem yadp {c a b : Q} : kc (.pick c a b) = 0 := by simp only [kc]
theorem yak2 {t : TypeId} {z : List AV} : kc (.new t z) = 1 := by simp only [kc]
theorem yaks {t : TypeId} {n : Nat} {x : Q} : kc (.box t n x) = 1 := by simp only [kc]
theorem yatk {n : Option Nat} {x : Q} : kc (.ld n x) = 2 := by simp only [kc]
theorem yatr {n : Nat} {a x : Q} : kc (.st n a x) = 3 := by simp only [kc]
theorem yatq {x : Q} : kc (.nz x) = 0 := by simp only [kc]
theorem yakq {op : BinOp} {t : TypeId} {x y : Q} : kc (.bin op t x y) = 0 := by simp only [kc]
theorem yats {op : UnOp} {x : Q} : kc (.un op x) = 0 := by simp only [kc]
theorem yatj {off : Nat} {x : Q} : kc (.fa off x) = 0 := by simp only [kc]
theorem yakx {off : Nat} {n : Option Nat} {x : Q} : kc (.fld off n x) = 0 := by simp only [kc]
theorem yaky {sz : Nat} {x i : Q} : kc (.ixs sz x i) = 0 := by simp only [kc]
theorem yak3 {x i : Q} : kc (.six x i) = 0 := by simp only [kc]
theorem yado {x : Q} : kc (.lens x) = 2 := by simp only [kc]
theorem yadn {x : Q} : kc (.lenl x) = 2 := by simp only [kc]
theorem yadm {f : FuncId} {args : List Q} : kc (.call f args) = 3 := by simp only [kc]
theorem zx6 {f : Q} {args : List Q} : kc (.callv f args) = 3 := by simp only [kc]
theorem yakw {i : Nat} {x : Q} : kc (.ext i x) = 0 := by simp only [kc]
theorem yakv {k : IntKind} {x : Q} : kc (.cvt k x) = 2 := by simp only [kc]
theorem yakz {f : FuncId} {first cap : List Q} : kc (.mkf f first cap) = 0 := by simp only [kc]
theorem yakr {z : List AV} {ps : List (Nat × Nat)} {parts : List (Nat × Q)} : kc (.bld z ps parts) = 0 := by simp only [kc]
theorem yakp {e : TypeId} {n w ce : Nat} {s x : Q} : kc (.app e n w ce s x) = 3 := by simp only [kc]
theorem yak1 {e : TypeId} {n w : Nat} {z : List AV} {l c : Q} : kc (.mks e n w z l c) = 1 := by simp only [kc]
theorem yak0 {x : Option Q} : kc (.mkm x) = 1 := by simp only [kc]
theorem yatl {kk : KK} {z : AV} {m k : Q} {ok : Bool} : kc (.lk kk z m k ok) = 2 := by simp only [kc]
theorem yatn {kk : KK} {m k x : Q} : kc (.mu kk m k x) = 3 := by simp only [kc]
theorem yak4 {n : Nat} {x : Q} {lo hi : Option Q} : kc (.slc n x lo hi) = 2 := by simp only [kc]
theorem yak5 {x : Q} {lo hi : Option Q} : kc (.ssl x lo hi) = 2 := by simp only [kc]
theorem yaku {x : Q} : kc (.cvs x) = 2 := by simp only [kc]
theorem yatp {x : Q} {l : List Q} : kc (.mx x l) = 2 := by simp only [kc]
theorem yatm {x : Q} {l : List Q} : kc (.mn x l) = 2 := by simp only [kc]
theorem yakt {t : TypeId} {s : Nat} {z : List AV} {len : Nat} {parts : List (Nat × Q)} : kc (.bsl t s z len parts) = 1 := by simp only [kc]
section
variable [E : Env] {P : Program} {ex : ExF}
def yabc (H : Heap) (r : Option (AV × Heap)) : Prop := ∀ v V, r = some (v, V) → V = H
theorem yaan {H : Heap} {x : Option AV} : yabc H (same H x) := by
 intro v V h; cases x with
 | none => cases h
 | some a => cases h; rfl
theorem yaao {H : Heap} {x : AV} : yabc H (some (x, H)) := by intro v V h; cases h; rfl
theorem yaam {α : Type} {H : Heap} {x : Option α} {f : α → Option (AV × Heap)} (h : ∀ a, yabc H (f a)) : yabc H (x.bind f) := by
 intro v V hr; cases x with
 | none => cases hr
 | some a => exact h a v V hr
theorem yadl {k : K} {e : EV} {H : Heap} (h : kc k = 0 ∨ kc k = 2) : yabc H (kA P ex e H k) := by
 cases k <;> simp [kc] at h <;> simp only [kA] <;> (repeat (first | exact yaan | exact yaao | refine yaam fun _ => ?_))
noncomputable def KP (P : Program) (W : Nat → List Nat) (i : Nat) (rest : List (O × List Nat × List Nat)) (e : EV) (d : Option Nat) (hl ml : List Nat) (H : Heap) (kept : List (Nat × Nat × Nat)) (v : AV) (V : Heap) : Ry :=
 if W i = [] ∧ v.all (vis ml) = true then L2 P W (i + 1) rest (zcw e d v) H kept else KF P W i rest e d hl ml H kept v V
noncomputable def KQ (P : Program) (W : Nat → List Nat) (i : Nat) (rest : List (O × List Nat × List Nat)) (e : EV) (d : Option Nat) (hl ml : List Nat) (H : Heap) (kept : List (Nat × Nat × Nat)) (v : AV) (V : Heap) : Ry :=
 if W i = [] ∧ v.all (vis ml) = true then L2 P W (i + 1) rest (zcw e d v) (zu0 (zbw H hl) H hl) kept else KV P W i rest e d hl ml H kept v V
variable {i : Nat} {W : Nat → List Nat} {us bs hl ml : List Nat} {rest : List (O × List Nat × List Nat)} {e : EV} {d : Option Nat} {k : K} {v : AV} {H V : Heap} {kept : List (Nat × Nat × Nat)} {u : Unit}
theorem zjy : ∀ {l : List Nat} {H : Heap}, (zbw H l).next = H.next
 | [], H => rfl
 | b :: l, H => by rw [zbw, zjy]; rfl
theorem zq8 : ∀ {l : List Nat} {H : Heap} {j : Nat}, (zbw H l).get j = if l.contains j then none else H.get j
 | [], H, j => by simp [zbw]
 | b :: l, H, j => by
  rw [zbw, zq8, Heap.get_kill]
  by_cases h : j = b
  ·subst h; simp
  ·simp [h]
theorem yael {r : Option (AV × Heap)} {f g : AV → Heap → Ry} (h : ∀ v V, r = some (v, V) → f v V = g v V) : opr r f = opr r g := by
 cases r with
 | none => rfl
 | some q => obtain ⟨v, V⟩ := q; exact h v V rfl
theorem yah5 (hw : W i = []) (hv : v.all (vis ml) = true) : LOk hl ml (W i) H (zbw H hl) v := by
 refine ⟨by rw [zjy]; exact Nat.le_refl _, fun hb b x hx => ?_, hv, by simp [hw], fun b _ _ hb => by rw [zq8, hb]; rfl, fun b x hb hx => ?_⟩
 ·rw [zq8] at hx; rw [zjy]
  split at hx
  ·cases hx
  ·exact hb b x hx
 ·rw [zjy, hw] at hb
  rcases hb with hb | hb
  ·cases hb
  ·omega
theorem ul_0 (h : kc k = 0) : UL P W i k us bs rest e d H kept hl ml u = opr (kA P (om P) e H k) (KP P W i rest e d hl ml H kept) := by
 have hf : zd3 k = true := by cases k <;> simp [kc] at h <;> rfl
 rw [ul_free hf]
 refine yael fun v V hr => ?_
 obtain rfl := yadl (.inl h) v V hr
 unfold KP
 split
 ·rename_i hc
  have hl0 : LOk hl ml (W i) V V v := ⟨Nat.le_refl _, fun hb => hb, hc.2, by simp [hc.1], fun _ _ _ _ => rfl, fun b x hb _ => by
   rw [hc.1] at hb
   rcases hb with hb | hb
   ·cases hb
   ·omega⟩
  unfold KF
  rw [if_pos (@decide_eq_true _ (_) hl0), if_pos rfl]
 ·rfl
theorem ul_1 (h : kc k = 1) : UL P W i k us bs rest e d H kept hl ml u = opr (kA P (om P) e H k) (KF P W i rest e d hl ml H kept) :=
 ul_free (by cases k <;> simp [kc] at h <;> rfl)
theorem ul_2 (h : kc k = 2) : UL P W i k us bs rest e d H kept hl ml u = opr (kA P (om P) e (zbw H hl) k) (KQ P W i rest e d hl ml H kept) := by
 have hf : zd3 k = false := by cases k <;> simp [kc] at h <;> rfl
 rw [ul_view hf]
 refine yael fun v V hr => ?_
 obtain rfl := yadl (.inr h) v V hr
 unfold KQ
 split
 ·rename_i hc
  unfold KV
  rw [if_pos (@decide_eq_true _ (_) (yah5 hc.1 hc.2)), if_pos zjy]
 ·rfl
theorem ul_3 (h : kc k = 3) (hf : zd3 k = false) : UL P W i k us bs rest e d H kept hl ml u = opr (kA P (om P) e (zbw H hl) k) (KV P W i rest e d hl ml H kept) := ul_view hf
theorem yatt (hw : W i = []) (hv : v.all (vis ml) = true) : KP P W i rest e d hl ml H kept v V = L2 P W (i + 1) rest (zcw e d v) H kept := if_pos ⟨hw, hv⟩
theorem yatu (hw : W i = []) (hv : v.all (vis ml) = true) : KQ P W i rest e d hl ml H kept v V = L2 P W (i + 1) rest (zcw e d v) (zu0 (zbw H hl) H hl) kept := if_pos ⟨hw, hv⟩
end
theorem yak9 {n : Nat} {a x : Q} : zd3 (.st n a x) = false := by simp only [zd3]
theorem zx7 {f : FuncId} {args : List Q} : zd3 (.call f args) = false := by simp only [zd3]
theorem ztl {f : Q} {args : List Q} : zd3 (.callv f args) = false := by simp only [zd3]
theorem yadr {e : TypeId} {n w ce : Nat} {s x : Q} : zd3 (.app e n w ce s x) = false := by simp only [zd3]
theorem yak8 {kk : KK} {m k x : Q} : zd3 (.mu kk m k x) = false := by simp only [zd3]
def hinV (H : Heap) (x : Option AV) : List Nat := (zdu H 100000 (match x with | some v => v.refs | none => []) []).getD []
@[congr] theorem yaqp {H : Heap} {x x' : Option AV} (h : x = x') : hinV H x = hinV H x' := by rw [h]
theorem ztd {H : Heap} {v : AV} : hinV H (some v) = (zdu H 100000 v.refs []).getD [] := rfl
def noW : Nat → List Nat := fun _ => []
theorem zx2 {e : EV} {H : Heap} : zds [] e H = noW := rfl
theorem yalm {i : Nat} : noW i = [] := rfl
theorem zxz {l : List Nat} : l.flatMap noW = [] := by induction l with | nil => rfl | cons a l ih => rw [List.flatMap_cons, ih]; rfl
theorem yac9 {e : EV} {H : Heap} {j : Nat} : zds [] e H j = [] := rfl
theorem yada {e : EV} {H : Heap} {i t j : Nat} {h : List (Nat × Nat)} : zds ((i, t) :: h) e H j = (if i = j then hinV H (e.look t) else []) ++ zds h e H j := rfl
theorem getD_some {α : Type} {a b : α} : (some a).getD b = a := rfl
theorem yakj {W : Nat → List Nat} {us ns : List Nat} {n : Nat} {kept : List (Nat × Nat × Nat)} : zpt W us ns n kept = (us.flatMap W ++ kept.flatMap fun q => if ns.contains q.1 then List.range' q.2.1 q.2.2 else []).filter fun b => decide (b < n) := rfl
theorem yavi {s : Nat} : List.range' s 0 = [] := rfl
theorem yavj {s n : Nat} : List.range' s (n + 1) = s :: List.range' (s + 1) n := rfl
theorem yad0 {hl ml W : List Nat} {H V : Heap} {v : AV} : lokB hl ml W H V v = (H.next ≤ V.next ∧ V.l.length ≤ V.next ∧ v.all (vis ml) = true ∧ (W.all fun b => decide (b < H.next) && !hl.contains b) = true ∧ zwp W hl H V H.next ∧ newB W ml H V V.next) := rfl
theorem yafe {W hl : List Nat} {H V : Heap} : zwp W hl H V 0 = True := rfl
theorem yaff {W hl : List Nat} {H V : Heap} {n : Nat} : zwp W hl H V (n + 1) = ((W.contains n = true ∨ hl.contains n = true ∨ V.get n = H.get n) ∧ zwp W hl H V n) := rfl
theorem yalj {W hl : List Nat} {H V : Heap} : newB W hl H V 0 = True := rfl
theorem yalk {W hl : List Nat} {H V : Heap} {n : Nat} : newB W hl H V (n + 1) = (((n < H.next ∧ W.contains n = false) ∨ yai7 (vis hl) (V.get n) = true) ∧ newB W hl H V n) := rfl
theorem zp7 {p : Nat → Bool} {x : Blk} : yai7 p (some x) = x.all p := rfl
theorem zp6 {p : Nat → Bool} : yai7 p none = true := rfl
theorem yame {hl : List Nat} {b : Nat} : vis hl b = !hl.contains b := rfl
section
variable {p : Nat → Bool}
theorem zpj {t : TypeId} {c : List AV} : (Blk.cells t c).all p = AV.allL p c := rfl
theorem zxc {es : List (AV × AV × Nat)} {k : Nat} : (Blk.map es k).all p = es.all fun e => e.1.all p && e.2.1.all p := rfl
theorem all_nil : AV.allL p [] = true := rfl
theorem all_cons {v : AV} {l : List AV} : AV.allL p (v :: l) = (v.all p && AV.allL p l) := rfl
theorem yabm {k : IntKind} {n : Int} : (AV.int k n).all p = true := rfl
theorem zw7 {b : Bool} : (AV.bool b).all p = true := rfl
theorem yabq {s : ByteArray} : (AV.str s).all p = true := rfl
theorem yabp {a : Option Addr} {c s : Nat} {l : List AV} : (AV.rsl a c s l).all p = true := rfl
theorem zxa {a : Addr} {l : List AV} : (AV.rptr a l).all p = true := rfl
theorem yabo {b o : Nat} : (AV.ptr b o).all p = p b := rfl
theorem yabk {b o n c s : Nat} : (AV.asl b o n c s).all p = p b := rfl
theorem yaj0 {b i n s : Nat} : (AV.sl b i n s).all p = p b := rfl
theorem yabj {l : List AV} : (AV.agg l).all p = AV.allL p l := rfl
theorem yabr {l : List AV} : (AV.tup l).all p = AV.allL p l := rfl
theorem zw8 : (AV.map none).all p = true := rfl
theorem yabn {b : Nat} : (AV.map (some b)).all p = p b := rfl
theorem zw9 : AV.nilp.all p = true := rfl
theorem zqh {α : Type} {f : α → AV} {l : List α} (h : ∀ x, (f x).all p = true) : AV.allL p (l.map f) = true := by
 induction l with
 | nil => rfl
 | cons x l ih => rw [List.map_cons, all_cons, h, ih]; rfl
theorem zw3 {a b : List AV} : AV.allL p (a ++ b) = (AV.allL p a && AV.allL p b) := by
 induction a with
 | nil => rfl
 | cons x a ih => rw [List.cons_append, all_cons, all_cons, ih, Bool.and_assoc]
theorem zw5 {l : List ByteArray} : AV.allL p (l.map AV.str) = true := zqh fun _ => rfl
end
section
variable [E : Env]
theorem zud {l : List ByteArray} : AV.refsL (l.map AV.str) = [] := refsL_map fun _ => rfl
theorem zyr {ρ : Nat → Nat} {l : List ByteArray} : AV.renL ρ (l.map AV.str) = l.map AV.str := renL_map fun _ => rfl
theorem zto {l : List ByteArray} : zbo (l.map AV.str) = true := leafs_map fun _ => rfl
theorem yae5 {l : List ByteArray} : AV.rfL (l.map AV.str) = true := by
 induction l with
 | nil => rfl
 | cons x l ih => rw [List.map_cons, rfL_cons, ih]; rfl
end
section
variable [E : Env] {P : Program} {fn : FuncId} {pin : Nat}
def rgz (env : EV) (m : List Nat) (H : Heap) (n : Nat) (x : Option Blk) : Rx := match x with
 | some (.loop st pend _ _ _ _ _ _) => if st = .busy then none else match pend with
  | none => some (.normal, ⟨env, m, H.kill n⟩)
  | some .ret => some (.ret, ⟨env, m, H.kill n⟩)
  | some (.exit id) => some (.exit id, ⟨env, m, H.kill n⟩)
  | _ => none
 | _ => none
@[congr] theorem yau4 {env : EV} {m : List Nat} {H : Heap} {n : Nat} {x x' : Option Blk} (h : x = x') : rgz env m H n x = rgz env m H n x' := by rw [h]
section
variable {env te : EV} {m : List Nat} {H : Heap} {n f d i : Nat} {ps : List Tmp} {a b : Code}
theorem yalx : rgz env m H n (some (.loop .ready none f te ps a b d)) = some (.normal, ⟨env, m, H.kill n⟩) := rfl
theorem yalv : rgz env m H n (some (.loop .done none f te ps a b d)) = some (.normal, ⟨env, m, H.kill n⟩) := rfl
theorem yalw : rgz env m H n (some (.loop .done (some .ret) f te ps a b d)) = some (.ret, ⟨env, m, H.kill n⟩) := rfl
theorem yalu : rgz env m H n (some (.loop .done (some (.exit i)) f te ps a b d)) = some (.exit i, ⟨env, m, H.kill n⟩) := rfl
end
theorem zyx {env : EV} {m : List Nat} {H : Heap} {n : Nat} {c : Bool} {x y : Blk} : rgz env m H n (some (bif c then x else y)) = bif c then rgz env m H n (some x) else rgz env m H n (some y) := by cases c <;> rfl
def rga (env : EV) (m : List Nat) (n : Nat) (r : Rv) : Rx := match r with | some (_, H) => rgz env m H n (H.get n) | none => none
@[congr] theorem yau2 {env : EV} {m : List Nat} {n : Nat} {r r' : Rv} (h : r = r') : rga env m n r = rga env m n r' := by rw [h]
theorem zyv {env : EV} {m : List Nat} {n : Nat} {v : AV} {H : Heap} : rga env m n (some (v, H)) = rgz env m H n (H.get n) := rfl
theorem zyu {env : EV} {m : List Nat} {n : Nat} {c : Bool} {x y : Rv} : rga env m n (bif c then x else y) = bif c then rga env m n x else rga env m n y := by cases c <;> rfl
noncomputable def rgf (P : Program) (fn : FuncId) (env : EV) (m : List Nat) (H : Heap) (ps : List Tmp) (a b : Code) (f : Option AV) : Rx := match f with
 | some (.func g first cap) => rga env (H.next :: m) (H.next + 1) (zji P (om P) 0 g (first ++ [AV.yieldf (H.next + 1)] ++ cap) ((H.push .dfr).push (.loop .ready none fn env ps a b H.next)))
 | _ => none
@[congr] theorem yau3 {env : EV} {m : List Nat} {H : Heap} {ps : List Tmp} {a b : Code} {f f' : Option AV} (h : f = f') : rgf P fn env m H ps a b f = rgf P fn env m H ps a b f' := by rw [h]
theorem zyw {env : EV} {m : List Nat} {H : Heap} {ps : List Tmp} {a b : Code} {g : FuncId} {first cap : List AV} : rgf P fn env m H ps a b (some (.func g first cap)) = rga env (H.next :: m) (H.next + 1) (zji P (om P) 0 g (first ++ [AV.yieldf (H.next + 1)] ++ cap) ((H.push .dfr).push (.loop .ready none fn env ps a b H.next))) := rfl
theorem zyi {f : Operand} {ps : Array Tmp} {a b : Code} {st : St} : om P ⟨fn, none⟩ pin (.rangeFunc f ps a b) st = rgf P fn st.env st.marks st.H ps.toList a b (zau st.env f) := by
 rw [zpc]
 simp only [zcb, zel]
 cases zau st.env f with
 | none => rfl
 | some v =>
  cases v <;> rfl
def rk5 (j : Option Code) (l : Nat) (H : Heap) (x : Option Blk) : Rv := match x with
 | some (.loop .busy _ fn tmps params assign body d) => some (.bool j.isNone, H.set l (.loop (if j.isNone then .ready else .done) j fn tmps params assign body d))
 | _ => none
@[congr] theorem yave {j : Option Code} {l : Nat} {H : Heap} {x x' : Option Blk} (h : x = x') : rk5 j l H x = rk5 j l H x' := by rw [h]
theorem yavf {l f d : Nat} {H : Heap} {p : Option Code} {te : EV} {ps : List Tmp} {a b : Code} : rk5 none l H (some (.loop .busy p f te ps a b d)) = some (.bool true, H.set l (.loop .ready none f te ps a b d)) := rfl
theorem yavg {l f d : Nat} {H : Heap} {c : Code} {p : Option Code} {te : EV} {ps : List Tmp} {a b : Code} : rk5 (some c) l H (some (.loop .busy p f te ps a b d)) = some (.bool false, H.set l (.loop .done (some c) f te ps a b d)) := rfl
theorem zgw {H : Heap} {l : Nat} {j : Option Code} : zci H l j = rk5 j l H (H.get l) := by
 unfold zci rk5
 cases H.get l with
 | none => rfl
 | some x =>
  cases x <;> rfl
def rk4 (l : Nat) (r : Rx) : Rv := match r with
 | some (.normal, ⟨_, [], H⟩) => zci H l none
 | some (.ret, ⟨_, [], H⟩) => zci H l (some .ret)
 | some (.exit id, ⟨_, [], H⟩) => zci H l (some (.exit id))
 | _ => none
@[congr] theorem yava {l : Nat} {r r' : Rx} (h : r = r') : rk4 l r = rk4 l r' := by rw [h]
theorem yavc {l : Nat} {e : EV} {H : Heap} : rk4 l (some (.normal, ⟨e, [], H⟩)) = rk5 none l H (H.get l) := zgw
theorem yavd {l : Nat} {e : EV} {H : Heap} : rk4 l (some (.ret, ⟨e, [], H⟩)) = rk5 (some .ret) l H (H.get l) := zgw
theorem yavb {l i : Nat} {e : EV} {H : Heap} : rk4 l (some (.exit i, ⟨e, [], H⟩)) = rk5 (some (.exit i)) l H (H.get l) := zgw
theorem zy1 {l : Nat} {c : Bool} {x y : Rx} : rk4 l (bif c then x else y) = bif c then rk4 l x else rk4 l y := by cases c <;> rfl
noncomputable def rk3 (P : Program) (fn : FuncId) (l : Nat) (body : Code) (env : EV) (H : Heap) (x : Option Blk) : Rv := match x with
 | some (.loop .ready pend fn1 tmps1 params1 assign1 body1 d1) => rk4 l (om P ⟨fn, some l⟩ H.next body ⟨env, [], H.set l (.loop .busy pend fn1 tmps1 params1 assign1 body1 d1)⟩)
 | _ => none
@[congr] theorem yau9 {l : Nat} {body : Code} {env : EV} {H : Heap} {x x' : Option Blk} (h : x = x') : rk3 P fn l body env H x = rk3 P fn l body env H x' := by rw [h]
theorem zy0 {l f d : Nat} {body : Code} {env : EV} {H : Heap} {p : Option Code} {te : EV} {ps : List Tmp} {a b : Code} : rk3 P fn l body env H (some (.loop .ready p f te ps a b d)) = rk4 l (om P ⟨fn, some l⟩ H.next body ⟨env, [], H.set l (.loop .busy p f te ps a b d)⟩) := rfl
noncomputable def rk2 (P : Program) (fn : FuncId) (l : Nat) (body : Code) (r : Rx) : Rv := match r with
 | some (.normal, ⟨env, [], H⟩) => rk3 P fn l body env H (H.get l)
 | _ => none
@[congr] theorem yau7 {l : Nat} {body : Code} {r r' : Rx} (h : r = r') : rk2 P fn l body r = rk2 P fn l body r' := by rw [h]
theorem yau8 {l : Nat} {body : Code} {env : EV} {H : Heap} : rk2 P fn l body (some (.normal, ⟨env, [], H⟩)) = rk3 P fn l body env H (H.get l) := rfl
noncomputable def rk1 (P : Program) (fn : FuncId) (l : Nat) (assign body : Code) (H : Heap) (r : Option EV) : Rv := match r with
 | some env => rk2 P fn l body (om P ⟨fn, some l⟩ H.next assign ⟨env, [], H⟩)
 | none => none
@[congr] theorem yau6 {l : Nat} {a b : Code} {H : Heap} {r r' : Option EV} (h : r = r') : rk1 P fn l a b H r = rk1 P fn l a b H r' := by rw [h]
theorem zyz {l : Nat} {a b : Code} {H : Heap} {e : EV} : rk1 P fn l a b H (some e) = rk2 P fn l b (om P ⟨fn, some l⟩ H.next a ⟨e, [], H⟩) := rfl
noncomputable def rk0 (P : Program) (l : Nat) (args : List AV) (H : Heap) (x : Option Blk) : Rv := match x with
 | some (.loop _ _ fn tmps params assign body _) => rk1 P fn l assign body H (zbk tmps params args)
 | _ => none
@[congr] theorem yau5 {l : Nat} {args : List AV} {H : Heap} {x x' : Option Blk} (h : x = x') : rk0 P l args H x = rk0 P l args H x' := by rw [h]
theorem zyy {l f d : Nat} {args : List AV} {H : Heap} {s : LoopState} {p : Option Code} {te : EV} {ps : List Tmp} {a b : Code} : rk0 P l args H (some (.loop s p f te ps a b d)) = rk1 P f l a b H (zbk te ps args) := rfl
theorem yaen {e : EV} : zbk e [] [] = some e := rfl
theorem zyj {e : EV} {t : Tmp} {ts : List Tmp} {v : AV} {vs : List AV} : zbk e (t :: ts) (v :: vs) = zbk (e.set t v) ts vs := rfl
theorem zm5 {l : Nat} {args : List AV} {H : Heap} : zky P (om P) 0 (.yieldf l) args H = rk0 P l args H (H.get l) := by
 simp only [zky, zlv]
 generalize H.get l = x
 cases x with
 | none => rfl
 | some x =>
  cases x <;> try rfl
  rename_i fn tmps params assign body d
  simp only [rk0, Nat.zero_le, if_true]
  cases zbk tmps params args with
  | none => rfl
  | some env =>
   simp only [rk1]
   generalize om P ⟨fn, some l⟩ H.next assign ⟨env, [], H⟩ = r
   cases r with
   | none => rfl
   | some q =>
    obtain ⟨x, ⟨e, m, K⟩⟩ := q
    cases x <;> cases m <;> rfl
def drm (b : Nat) (bs : List Nat) (H : Heap) (x : Option Blk) : Option Heap := match x with | some .dfr => zbg (H.kill b) bs | _ => none
@[congr] theorem yas1 {b : Nat} {bs : List Nat} {H : Heap} {x x' : Option Blk} (h : x = x') : drm b bs H x = drm b bs H x' := by rw [h]
theorem zxs {b : Nat} {bs : List Nat} {H : Heap} : drm b bs H (some .dfr) = zbg (H.kill b) bs := rfl
theorem zjk {H : Heap} : zbg H [] = some H := rfl
theorem zii {b : Nat} {bs : List Nat} {H : Heap} : zbg H (b :: bs) = drm b bs H (H.get b) := rfl
def fid (P : Program) (pin : Nat) (rs : List ResultVar) (env : EV) (r : Option Heap) : Rv := match r with | some H => finv pin H (za6 P H env rs) | none => none
@[congr] theorem yas8 {rs : List ResultVar} {env : EV} {r r' : Option Heap} (h : r = r') : fid P pin rs env r = fid P pin rs env r' := by rw [h]
theorem zxv {rs : List ResultVar} {env : EV} {H : Heap} : fid P pin rs env (some H) = finv pin H (za6 P H env rs) := rfl
theorem zxx {rs : List ResultVar} {env : EV} {H : Heap} {d : Nat} {m : List Nat} : fin P pin rs (some (.ret, ⟨env, d :: m, H⟩)) = fid P pin rs env (zbg H (d :: m)) := by
 simp only [fin, fid]; cases zbg H (d :: m) <;> rfl
theorem znf {rs : List ResultVar} {env : EV} {H : Heap} {d : Nat} {m : List Nat} : fin P pin rs (some (.normal, ⟨env, d :: m, H⟩)) = fid P pin rs env (zbg H (d :: m)) := by
 simp only [fin, fid]; cases zbg H (d :: m) <;> rfl
theorem zpm {s : LoopState} {p : Option Code} {f d : Nat} {te : EV} {ps : List Tmp} {a b : Code} : (Blk.loop s p f te ps a b d).refs = AV.refsL (vals te.s) ++ [d] := rfl
theorem zsk {ρ : Nat → Nat} {s : LoopState} {p : Option Code} {f d n : Nat} {te : List (Nat × AV)} {ps : List Tmp} {a b : Code} : (Blk.loop s p f ⟨n, te⟩ ps a b d).ren ρ = .loop s p f ⟨n, zyq ρ te⟩ ps a b (ρ d) := rfl
theorem zsi : Blk.dfr.refs = [] := rfl
theorem zxg {ρ : Nat → Nat} : Blk.dfr.ren ρ = .dfr := rfl
theorem zsc {q : Nat → Bool} {s : LoopState} {p : Option Code} {f d : Nat} {te : EV} {ps : List Tmp} {a b : Code} : (Blk.loop s p f te ps a b d).all q = (AV.allL q (vals te.s) && q d) := rfl
theorem zxb {q : Nat → Bool} : Blk.dfr.all q = true := rfl
end
section
variable [E : Env] {P : Program} {ex : ExF}
theorem yaln {e : EV} {H : Heap} {t : TypeId} {x i : Operand} {d : Option Tmp} {ty : TypeId} {pos : String} {af : Array Edge} {g : Option (Nat × Bool)} : opA P ex 0 e H ⟨d, .indexAddr t x i, ty, pos, af, g⟩ = (zau e x).bind fun x => (zau e i).bind fun i => same H (za8 P t x i) := by
 simp only [opA, aop]
 cases zau e x with
 | none => rfl
 | some x =>
  cases zau e i with
  | none => rfl
  | some i => simp only [Option.bind_some]; cases za8 P t x i <;> rfl
noncomputable def rcl (P : Program) (H : Heap) (e : EV) (a : Nat) (t : TypeId) (l : List ResultVar) (x : Option (Option Nat)) : Option (List AV) := match x with
 | some n => res2 ((e.look a).bind (ldA H n)) (za6 P H e l)
 | none => za6 P H e (.cell a t :: l)
@[congr] theorem yaux {H : Heap} {e : EV} {a : Nat} {t : TypeId} {l : List ResultVar} {x x' : Option (Option Nat)} (h : x = x') : rcl P H e a t l x = rcl P H e a t l x' := by rw [h]
theorem zyo {H : Heap} {e : EV} {a : Nat} {t : TypeId} {l : List ResultVar} {n : Option Nat} : rcl P H e a t l (some n) = res2 ((e.look a).bind (ldA H n)) (za6 P H e l) := rfl
theorem zyt {H : Heap} {e : EV} {a : Nat} {t : TypeId} {l : List ResultVar} : za6 P H e (.cell a t :: l) = rcl P H e a t l (zux P t) := by
 cases h : zux P t with
 | none => rfl
 | some n =>
  simp only [za6, rcl, res2]
  cases e.look a with
  | none => rfl
  | some v =>
   simp only [Option.bind_some, yabf h]
   cases ldA H n v <;> cases za6 P H e l <;> rfl
theorem yaed {e : EV} {H : Heap} {t : TypeId} {x i : Operand} {d : Option Tmp} {ty : TypeId} {pos : String} {af : Array Edge} {g : Option (Nat × Bool)} : opA P ex 0 e H ⟨d, .slice t x none (some i) none, ty, pos, af, g⟩ = (zau e x).bind fun x => (zau e i).bind fun i => same H (zda P H t x none (some i)) := by
 simp only [opA, aop]
 cases zau e x with
 | none => rfl
 | some x =>
  simp only [Option.bind_some, Option.map_some, Option.map_none]
  cases zau e i with
  | none => rfl
  | some i => simp only [Option.bind_some, Option.bind_none, id]; cases zda P H t x none (some i) <;> rfl
theorem yads {t : TypeId} {x : Operand} {a b c : Option Operand} : zd3 (.raw (.slice t x a b c)) = false := by simp only [zd3, zd2]
theorem ia_p {t : TypeId} {n e s b o : Nat} {k : IntKind} {i : Int} (hu : P.underlying t = some (.array n e)) (hs : za0 P e = some s) (hi : (decide (0 ≤ i) && decide (i < n)) = true) : za8 P t (.ptr b o) (.int k i) = some (.ptr b (o + i.toNat * s)) := by
 simp only [za8, hu, hs, hi, if_true]
theorem yaz0 {H : Heap} {t : TypeId} {n e s b o : Nat} {h : Int} (hu : P.underlying t = some (.array n e)) (hs : za0 P e = some s) (h0 : 0 ≤ h) (h1 : h ≤ n) (hn : 0 < n) : zda P H t (.ptr b o) none (some (.int .i64 h)) = some (.asl b o h.toNat n s) := by
 have e1 : h.toNat ≤ n := by omega
 simp [zda, hu, hs, zba, h0, e1, hn]
theorem yadk {b o n c sz : Nat} {i : Int} {k : IntKind} (h0 : 0 ≤ i) (h : i < n) : ixA sz (.asl b o n c sz) (.int k i) = some (.ptr b (o + i.toNat * sz)) := by
 simp [ixA, h0, h]
theorem ya2t {t : TypeId} {x i : Operand} : kc (.raw (.indexAddr t x i)) = 3 := by simp only [kc]
theorem yak7 {t : TypeId} {x i : Operand} : zd3 (.raw (.indexAddr t x i)) = true := by simp only [zd3, zd2]
theorem yake {e : EV} {t : Nat} : zau e (.tmp t) = e.look t := rfl
theorem yacq {e : EV} {g : Nat} : zau e (.global g) = E.glob g := rfl
theorem yay0 {t : TypeId} {n e s : Nat} {a : Addr} {cs : List AV} {k : IntKind} {i : Int} (hu : P.underlying t = some (.array n e)) (hs : za0 P e = some s) (hi : (decide (0 ≤ i) && decide (i < n)) = true) : za8 P t (.rptr a cs) (.int k i) = some (.rptr (a.add (i.toNat * s)) (cs.drop (i.toNat * s))) := by
 simp only [za8, hu, hs, hi, if_true]
end
theorem zpl {c : Bool} {x y : Blk} : (bif c then x else y).refs = bif c then x.refs else y.refs := by cases c <;> rfl
theorem zsj {c : Bool} {x y : Blk} {ρ : Nat → Nat} : (bif c then x else y).ren ρ = bif c then x.ren ρ else y.ren ρ := by cases c <;> rfl
end Go.Ab
