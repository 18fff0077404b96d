/- What the law's proof leans on, part 4. Conditions: in each statement. -/
import Derived.Test.YtibehelnfbcnjaaGreatDoorQV3
set_option linter.all false
set_option linter.unusedSimpArgs false
set_option linter.unusedVariables false
set_option linter.unusedSectionVars false
namespace Go.Ab
open Go
section
variable [E : Env] {P : Program} {ex ex' : ExF}
def Le (ex ex' : ExF) : Prop := ∀ cx pin c st r, ex cx pin c st = some r → ex' cx pin c st = some r
theorem zug (h : Le ex ex') {f : FuncId} {args : List AV} {K : Heap} {r : AV × Heap} (hr : zas P ex f args K = some r) : zas P ex' f args K = some r := by
 unfold zas at hr ⊢
 cases hf : P.funcs[f]? with
 | none => simp [hf] at hr
 | some fn =>
 simp only [hf] at hr ⊢
 cases hb : fn.body with
 | none => simp [hb] at hr
 | some c =>
 simp only [hb] at hr ⊢
 unfold runF at hr ⊢
 cases hx : ex ⟨f, none⟩ K.next c ⟨⟨Nat.max fn.ntmps args.length, zr7 0 args⟩, [], K⟩ with
 | none => simp [hx] at hr
 | some q =>
  simp only [hx, h _ _ _ _ _ hx] at hr ⊢
  exact hr
theorem yabh {α : Type} {g g' : (Nat → Nat × Nat) → Option α} (h : ∀ κ r, g κ = some r → g' κ = some r) {r : α} (hr : zzh g = some r) : zzh g' = some r := by
 have hk : ∀ κ, g κ = some r := fun κ => by
  unfold zzh at hr
  split at hr
  ·rename_i hx; cases hr; exact hx.choose_spec κ
  ·cases hr
 have hk' : ∀ κ, g' κ = some r := fun κ => h κ r (hk κ)
 have hx : ∃ r, ∀ κ, g' κ = some r := ⟨r, hk'⟩
 unfold zzh
 rw [dif_pos hx]
 have := hx.choose_spec fun _ => (0, 0)
 rw [hk'] at this
 exact this.symm
theorem zpn (h : Le ex ex') {lo : Nat} {f : FuncId} {args : List AV} {H : Heap} {r : AV × Heap} (hr : zji P ex lo f args H = some r) : zji P ex' lo f args H = some r := by
 unfold zji at hr ⊢
 cases hb : E.inl f && !AV.rfL args with
 | true =>
  simp only [hb, cond_true] at hr ⊢
  cases hk : zzh fun κ => (zjx P κ H 1000 args).bind fun as => zas P ex f as Heap.empty with
  | none => rw [hk] at hr; cases hr
  | some q =>
   have := yabh (g' := fun κ => (zjx P κ H 1000 args).bind fun as => zas P ex' f as Heap.empty) (fun κ r hg => by
    cases hi : zjx P κ H 1000 args with
    | none => rw [hi] at hg; cases hg
    | some as => rw [hi, Option.bind_some] at hg; rw [Option.bind_some]; exact zug h hg) hk
   rw [this, ← hk]; exact hr
 | false =>
  simp only [hb, cond_false] at hr ⊢
  cases ho : zdu H 100000 (AV.refsL args) [] with
  | none => simp [ho] at hr
  | some ord =>
   simp only [ho] at hr ⊢
   cases hx : zas P ex f (AV.renL (zgo ord) args) (H.part ord) with
   | none => rw [hx] at hr; cases hr
   | some q => rw [zug h hx, ← hx]; exact hr
theorem zwo (h : Le ex ex') {lo l : Nat} {args : List AV} {H : Heap} {r : AV × Heap} (hr : zlv ex lo l args H = some r) : zlv ex' lo l args H = some r := by
 unfold zlv at hr
 split at hr
 ·rename_i st pend fn tmps params assign body d hl
  split at hr
  ·rename_i hlo
   cases hp : zbk tmps params args with
   | none => simp [hp] at hr
   | some env =>
   simp only [hp] at hr
   cases hx : ex ⟨fn, some l⟩ H.next assign ⟨env, [], H⟩ with
   | none => simp [hx] at hr
   | some q =>
   simp only [hx] at hr
   split at hr
   ·rename_i env' H' hq
    cases hq
    split at hr
    ·rename_i pend fn1 tmps1 params1 assign1 body1 d1 hg
     cases hy : ex ⟨fn, some l⟩ H'.next body ⟨env', [], H'.set l (.loop .busy pend fn1 tmps1 params1 assign1 body1 d1)⟩ with
     | none => simp [hy] at hr
     | some q2 =>
      unfold zlv
      simp only [hl, hlo, if_true, hp, h _ _ _ _ _ hx, hg, h _ _ _ _ _ hy]
      rw [hy] at hr
      exact hr
    ·cases hr
   ·cases hr
  ·cases hr
 ·cases hr
theorem zzk (h : Le ex ex') {lo : Nat} {f : AV} {args : List AV} {H : Heap} {r : AV × Heap} (hr : zky P ex lo f args H = some r) : zky P ex' lo f args H = some r := by
 unfold zky at hr ⊢
 split at hr
 ·exact zpn h hr
 ·exact zwo h hr
 ·cases hr
theorem zpk {α β : Type} {x : Option α} {f : α → Option β} {r : β} (h : x.bind f = some r) : ∃ a, x = some a ∧ f a = some r := by
 cases x with
 | none => cases h
 | some a => exact ⟨a, rfl, h⟩
theorem zrj (h : Le ex ex') {lo : Nat} {env : EV} {H : Heap} {o : Oper} {r : AV × Heap} (hr : opA P ex lo env H o = some r) : opA P ex' lo env H o = some r := by
 by_cases hc : ∃ f args ts, o.op = .call { callee := .value f, args := args, argTypes := ts }
 ·obtain ⟨f, args, ts, ho⟩ := hc
  simp only [opA, ho] at hr ⊢
  obtain ⟨f', h1, h2⟩ := zpk hr
  obtain ⟨vs, h3, h4⟩ := zpk h2
  simp only [h1, h3, Option.bind]; exact zzk h h4
 ·have e : ∀ ex : ExF, opA P ex lo env H o = aop P lo env H o := by
   intro ex
   unfold opA
   split
   ·rename_i ho; exact absurd ⟨_, _, _, ho⟩ hc
   ·rfl
  rw [e] at hr ⊢; exact hr
theorem zgf (h : Le ex ex') {ops : Array Oper} : ∀ (l : List Oper) {env : EV} {H : Heap} {r : EV × Heap}, ze6 P ex ops l env H = some r → ze6 P ex' ops l env H = some r
 | [], env, H, r, hr => hr
 | o :: rest, env, H, r, hr => by
  simp only [ze6] at hr ⊢
  cases hw : zle ops env o with
  | none => rw [hw] at hr; cases hr
  | some b =>
  rw [hw] at hr
  cases b with
  | true =>
   simp only at hr ⊢
   cases ho : opA P ex 0 env H o with
   | none => simp [ho] at hr
   | some q =>
   simp only [ho] at hr
   simp only [zrj h ho]
   exact zgf h rest hr
  | false => exact zgf h rest hr
theorem zkk (h : Le ex ex') {m : Nat} {ops : Array Oper} {bef : Array Nat} {W : Nat → List Nat} : ∀ (l : List Oper) {i : Nat} {env : EV} {H : Heap} {kept : List (Nat × Nat × Nat)} {r : EV × Heap}, zy3 P ex ops bef m W i l env H kept = some r → zy3 P ex' ops bef m W i l env H kept = some r
 | [], i, env, H, kept, r, hr => by simpa only [zy3] using hr
 | o :: rest, i, env, H, kept, r, hr => by
  simp only [zy3] at hr ⊢
  cases hw : zle ops env o with
  | none => rw [hw] at hr; cases hr
  | some b =>
  rw [hw] at hr
  cases b with
  | true =>
   simp only at hr ⊢
   split at hr
   ·rename_i hf
    simp only [hf, if_true]
    split at hr
    ·rename_i v V ho
     split at hr
     ·rename_i hc
      simp only [zrj h ho, hc, if_true]; exact zkk h rest hr
     ·cases hr
    ·cases hr
   ·rename_i hf
    simp only [hf]
    split at hr
    ·rename_i v V ho
     split at hr
     ·rename_i hc
      simp only [zrj h ho, hc, if_true]; exact zkk h rest hr
     ·cases hr
    ·cases hr
  | false => exact zkk h rest hr
theorem yafb (h : Le ex ex') {fn : FuncId} {id : Nat} {ops : Array Oper} {env : EV} {H : Heap} {r : EV × Heap} (hr : runD P ex fn id ops env H = some r) : runD P ex' fn id ops env H = some r := by
 unfold runD zob at hr ⊢
 dsimp only at hr ⊢
 split at hr
 ·rename_i hc
  simp only [hc, if_true]
  split at hr
  ·rename_i env1 H1 hq
   simp only [zkk h _ hq]; exact zgf h _ hr
  ·cases hr
 ·cases hr
theorem zk9 (h : Le ex ex') {cx : Ctx} {pin : Nat} {c : Code} {st : St} {r : Ex × St} (hr : zcb P ex cx pin c st = some r) : zcb P ex' cx pin c st = some r := by
 cases c with
 | skip => exact hr
 | ret => exact hr
 | exit id => exact hr
 | region id ops draw =>
  simp only [zcb] at hr ⊢
  cases draw with
  | true =>
   simp only [if_true] at hr ⊢
   split at hr
   ·rename_i env H hq
    simp only [yafb h hq]; exact hr
   ·cases hr
  | false =>
   simp only [Bool.false_eq_true, if_false] at hr ⊢
   split at hr
   ·rename_i env H hq
    simp only [zgf h _ hq]; exact hr
   ·cases hr
 | seq a b =>
  simp only [zcb] at hr ⊢
  cases hx : ex cx pin a st with
  | none => simp [hx] at hr
  | some q =>
   rw [hx] at hr
   rw [h _ _ _ _ _ hx]
   obtain ⟨e, st'⟩ := q
   cases e with
   | normal => exact h _ _ _ _ _ hr
   | exit i => exact hr
   | ret => exact hr
 | cond x a b =>
  simp only [zcb] at hr ⊢
  split at hr
  ·rename_i t he
   cases hx : ex cx pin (if t = true then a else b) st with
   | none => simp [hx] at hr
   | some q =>
    rw [hx] at hr
    simp only [he, h _ _ _ _ _ hx]
    exact hr
  ·cases hr
 | block id a =>
  simp only [zcb] at hr ⊢
  cases hx : ex cx pin a st with
  | none => simp [hx] at hr
  | some q => rw [hx] at hr; rw [h _ _ _ _ _ hx]; exact hr
 | loop a =>
  simp only [zcb] at hr ⊢
  cases hx : ex cx pin a st with
  | none => simp [hx] at hr
  | some q =>
   rw [hx] at hr
   rw [h _ _ _ _ _ hx]
   obtain ⟨e, st'⟩ := q
   cases e with
   | normal => exact h _ _ _ _ _ hr
   | exit i => exact hr
   | ret => exact hr
 | rangeFunc f params assign body =>
  simp only [zcb] at hr ⊢
  cases hf : zau st.env f with
  | none => simp [hf] at hr
  | some fv =>
  simp only [hf] at hr ⊢
  cases hl : zel cx.rnd st.marks st.H with
  | none => simp [hl] at hr
  | some q =>
  obtain ⟨d, marks, H⟩ := q
  simp only [hl] at hr ⊢
  cases fv with
  | func g first cap =>
   simp only at hr ⊢
   split at hr
   ·rename_i v H' hc
    simp only [zpn h hc]; exact hr
   ·cases hr
  | _ => simp at hr
 | _ => simp [zcb] at hr
theorem zu2 {cx : Ctx} {pin : Nat} {c : Code} {st : St} {r : Ex × St} (hex : ∀ cx pin c st r, ex cx pin c st = some r → OM P cx pin c st r) (h : zcb P ex cx pin c st = some r) : OM P cx pin c st r :=
 fun R hR => hR ex (fun cx pin c st r he => hex cx pin c st r he R hR) cx pin c st r h
def OM1 (P : Program) (cx : Ctx) (pin : Nat) (c : Code) (st : St) (r : Ex × St) : Prop :=
 ∃ ex : ExF, (∀ cx pin c st r, ex cx pin c st = some r → OM P cx pin c st r) ∧ zcb P ex cx pin c st = some r
theorem yajz {cx : Ctx} {pin : Nat} {c : Code} {st : St} {r : Ex × St} (h : OM P cx pin c st r) : OM1 P cx pin c st r :=
 h (fun cx pin c st r => OM1 P cx pin c st r) fun ex hex cx pin c st r hr => ⟨ex, fun cx pin c st r he => by
  obtain ⟨ex1, h1, h2⟩ := hex cx pin c st r he
  exact zu2 h1 h2, hr⟩
def OMu (P : Program) (cx : Ctx) (pin : Nat) (c : Code) (st : St) (r : Ex × St) : Prop := OM P cx pin c st r ∧ ∀ r', OM P cx pin c st r' → r' = r
theorem yamg {cx : Ctx} {pin : Nat} {c : Code} {st : St} {r : Ex × St} (h : OM P cx pin c st r) : OMu P cx pin c st r :=
 h (fun cx pin c st r => OMu P cx pin c st r) fun ex hex cx pin c st r hr => by
  refine ⟨zu2 (fun cx pin c st r he => (hex cx pin c st r he).1) hr, fun r' h' => ?_⟩
  obtain ⟨ex1, h1, h2⟩ := yajz h'
  let ex2 : ExF := fun cx pin c st => match ex cx pin c st with | some r => some r | none => ex1 cx pin c st
  have l1 : Le ex ex2 := fun cx pin c st r he => by simp only [ex2, he]
  have l2 : Le ex1 ex2 := fun cx pin c st r he => by
   simp only [ex2]
   cases hx : ex cx pin c st with
   | none => exact he
   | some q => simp only; rw [(hex cx pin c st q hx).2 r (h1 cx pin c st r he)]
  have e1 := zk9 l1 hr
  have e2 := zk9 l2 h2
  rw [e1] at e2
  cases e2; rfl
theorem yaec {cx : Ctx} {pin : Nat} {c : Code} {st : St} {r : Ex × St} : om P cx pin c st = some r ↔ OM P cx pin c st r := by
 constructor
 ·intro h
  unfold om at h
  split at h
  ·rename_i hx; cases h; exact hx.choose_spec
  ·cases h
 ·intro h
  unfold om
  have hx : ∃ r, OM P cx pin c st r := ⟨r, h⟩
  rw [dif_pos hx, (yamg h).2 _ hx.choose_spec]
theorem zpc {cx : Ctx} {pin : Nat} {c : Code} {st : St} : om P cx pin c st = zcb P (om P) cx pin c st := by
 apply Option.ext
 intro r
 rw [yaec]
 constructor
 ·intro h
  obtain ⟨ex, h1, h2⟩ := yajz h
  exact zk9 (fun cx pin c st r he => yaec.2 (h1 cx pin c st r he)) h2
 ·intro h
  exact zu2 (fun cx pin c st r he => yaec.1 he) h
end
end Go.Ab
