/- What the law's proof leans on, part 4. Conditions: in each statement. -/
import Derived.Test.YtcfcphhamfhfcaaGreatDoorQV3
set_option linter.all false
set_option linter.unusedSimpArgs false
set_option linter.unusedVariables false
set_option linter.unusedSectionVars false
namespace Go.Ab
open Go
section
variable [E : Env] {P : Program} {ex ex' : ExF}
def Le (ex ex' : ExF) : Prop := ∀ cx pin c st r, ex cx pin c st = some r → ex' cx pin c st = some r
theorem zw6 (h : Le ex ex') {f : FuncId} {args : List AV} {K : Heap} {r : AV × Heap} (hr : zaq P ex f args K = some r) : zaq P ex' f args K = some r := by
 unfold zaq at hr ⊢
 cases hf : P.funcs[f]? with
 | none => simp [hf] at hr
 | some fn =>
 simp only [hf] at hr ⊢
 cases hb : fn.body with
 | none => simp [hb] at hr
 | some c =>
 simp only [hb] at hr ⊢
 unfold runF at hr ⊢
 cases hx : ex ⟨f, none⟩ K.next c ⟨⟨Nat.max fn.ntmps args.length, zu2 0 args⟩, [], K⟩ with
 | none => simp [hx] at hr
 | some q =>
  simp only [hx, h _ _ _ _ _ hx] at hr ⊢
  exact hr
theorem yaej {α : Type} {g g' : (Nat → Nat × Nat) → Option α} (h : ∀ κ r, g κ = some r → g' κ = some r) {r : α} (hr : allK g = some r) : allK g' = some r := by
 have hk : ∀ κ, g κ = some r := fun κ => by
  unfold allK at hr
  split at hr
  ·rename_i hx; cases hr; exact hx.choose_spec κ
  ·cases hr
 have hk' : ∀ κ, g' κ = some r := fun κ => h κ r (hk κ)
 have hx : ∃ r, ∀ κ, g' κ = some r := ⟨r, hk'⟩
 unfold allK
 rw [dif_pos hx]
 have := hx.choose_spec fun _ => (0, 0)
 rw [hk'] at this
 exact this.symm
theorem zr8 (h : Le ex ex') {lo : Nat} {f : FuncId} {args : List AV} {H : Heap} {r : AV × Heap} (hr : zlo P ex lo f args H = some r) : zlo P ex' lo f args H = some r := by
 unfold zlo at hr ⊢
 cases hb : E.inl f && !AV.rfL args with
 | true =>
  simp only [hb, cond_true] at hr ⊢
  cases hk : allK fun κ => (zkc P κ H 1000 args).bind fun as => zaq P ex f as Heap.empty with
  | none => rw [hk] at hr; cases hr
  | some q =>
   have := yaej (g' := fun κ => (zkc P κ H 1000 args).bind fun as => zaq P ex' f as Heap.empty) (fun κ r hg => by
    cases hi : zkc P κ H 1000 args with
    | none => rw [hi] at hg; cases hg
    | some as => rw [hi, Option.bind_some] at hg; rw [Option.bind_some]; exact zw6 h hg) hk
   rw [this, ← hk]; exact hr
 | false =>
  simp only [hb, cond_false] at hr ⊢
  cases ho : ze2 H 100000 (AV.refsL args) [] with
  | none => simp [ho] at hr
  | some ord =>
   simp only [ho] at hr ⊢
   cases hx : zaq P ex f (AV.renL (zii ord) args) (H.part ord) with
   | none => rw [hx] at hr; cases hr
   | some q => rw [zw6 h hx, ← hx]; exact hr
theorem zy1 (h : Le ex ex') {lo l : Nat} {args : List AV} {H : Heap} {r : AV × Heap} (hr : zob ex lo l args H = some r) : zob ex' lo l args H = some r := by
 unfold zob at hr
 split at hr
 ·rename_i st pend fn tmps params assign body d hl
  split at hr
  ·rename_i hlo
   cases hp : zch tmps params args with
   | none => simp [hp] at hr
   | some env =>
   simp only [hp] at hr
   cases hx : ex ⟨fn, some l⟩ H.next assign ⟨env, [], H⟩ with
   | none => simp [hx] at hr
   | some q =>
   simp only [hx] at hr
   split at hr
   ·rename_i env' H' hq
    cases hq
    split at hr
    ·rename_i pend fn1 tmps1 params1 assign1 body1 d1 hg
     cases hy : ex ⟨fn, some l⟩ H'.next body ⟨env', [], H'.set l (.loop .busy pend fn1 tmps1 params1 assign1 body1 d1)⟩ with
     | none => simp [hy] at hr
     | some q2 =>
      unfold zob
      simp only [hl, hlo, if_true, hp, h _ _ _ _ _ hx, hg, h _ _ _ _ _ hy]
      rw [hy] at hr
      exact hr
    ·cases hr
   ·cases hr
  ·cases hr
 ·cases hr
theorem yacg (h : Le ex ex') {lo : Nat} {f : AV} {args : List AV} {H : Heap} {r : AV × Heap} (hr : znc P ex lo f args H = some r) : znc P ex' lo f args H = some r := by
 unfold znc at hr ⊢
 split at hr
 ·exact zr8 h hr
 ·exact zy1 h hr
 ·cases hr
theorem zr5 {α β : Type} {x : Option α} {f : α → Option β} {r : β} (h : x.bind f = some r) : ∃ a, x = some a ∧ f a = some r := by
 cases x with
 | none => cases h
 | some a => exact ⟨a, rfl, h⟩
theorem zuc (h : Le ex ex') {lo : Nat} {env : EV} {H : Heap} {o : Oper} {r : AV × Heap} (hr : opA P ex lo env H o = some r) : opA P ex' lo env H o = some r := by
 by_cases hc : ∃ f args ts, o.op = .call { callee := .value f, args := args, argTypes := ts }
 ·obtain ⟨f, args, ts, ho⟩ := hc
  simp only [opA, ho] at hr ⊢
  obtain ⟨f', h1, h2⟩ := zr5 hr
  obtain ⟨vs, h3, h4⟩ := zr5 h2
  simp only [h1, h3, Option.bind]; exact yacg h h4
 ·have e : ∀ ex : ExF, opA P ex lo env H o = aop P lo env H o := by
   intro ex
   unfold opA
   split
   ·rename_i ho; exact absurd ⟨_, _, _, ho⟩ hc
   ·rfl
  rw [e] at hr ⊢; exact hr
theorem zhz (h : Le ex ex') {ops : Array Oper} : ∀ (l : List Oper) {env : EV} {H : Heap} {r : EV × Heap}, zgj P ex ops l env H = some r → zgj P ex' ops l env H = some r
 | [], env, H, r, hr => hr
 | o :: rest, env, H, r, hr => by
  simp only [zgj] at hr ⊢
  cases hw : znu ops env o with
  | none => rw [hw] at hr; cases hr
  | some b =>
  rw [hw] at hr
  cases b with
  | true =>
   simp only at hr ⊢
   cases ho : opA P ex 0 env H o with
   | none => simp [ho] at hr
   | some q =>
   simp only [ho] at hr
   simp only [zuc h ho]
   exact zhz h rest hr
  | false => exact zhz h rest hr
theorem zmu (h : Le ex ex') {m : Nat} {ops : Array Oper} {bef : Array Nat} {W : Nat → List Nat} : ∀ (l : List Oper) {i : Nat} {env : EV} {H : Heap} {kept : List (Nat × Nat × Nat)} {r : EV × Heap}, runL P ex ops bef m W i l env H kept = some r → runL P ex' ops bef m W i l env H kept = some r
 | [], i, env, H, kept, r, hr => by simpa only [runL] using hr
 | o :: rest, i, env, H, kept, r, hr => by
  simp only [runL] at hr ⊢
  cases hw : znu ops env o with
  | none => rw [hw] at hr; cases hr
  | some b =>
  rw [hw] at hr
  cases b with
  | true =>
   simp only at hr ⊢
   split at hr
   ·rename_i hf
    simp only [hf, if_true]
    split at hr
    ·rename_i v V ho
     split at hr
     ·rename_i hc
      simp only [zuc h ho, hc, if_true]; exact zmu h rest hr
     ·cases hr
    ·cases hr
   ·rename_i hf
    simp only [hf]
    split at hr
    ·rename_i v V ho
     split at hr
     ·rename_i hc
      simp only [zuc h ho, hc, if_true]; exact zmu h rest hr
     ·cases hr
    ·cases hr
  | false => exact zmu h rest hr
theorem yah6 (h : Le ex ex') {fn : FuncId} {id : Nat} {ops : Array Oper} {env : EV} {H : Heap} {r : EV × Heap} (hr : runD P ex fn id ops env H = some r) : runD P ex' fn id ops env H = some r := by
 unfold runD zq1 at hr ⊢
 dsimp only at hr ⊢
 split at hr
 ·rename_i hc
  simp only [hc, if_true]
  split at hr
  ·rename_i env1 H1 hq
   simp only [zmu h _ hq]; exact zhz h _ hr
  ·cases hr
 ·cases hr
theorem zno (h : Le ex ex') {cx : Ctx} {pin : Nat} {c : Code} {st : St} {r : Ex × St} (hr : zc9 P ex cx pin c st = some r) : zc9 P ex' cx pin c st = some r := by
 cases c with
 | skip => exact hr
 | ret => exact hr
 | exit id => exact hr
 | region id ops draw =>
  simp only [zc9] at hr ⊢
  cases draw with
  | true =>
   simp only [if_true] at hr ⊢
   split at hr
   ·rename_i env H hq
    simp only [yah6 h hq]; exact hr
   ·cases hr
  | false =>
   simp only [Bool.false_eq_true, if_false] at hr ⊢
   split at hr
   ·rename_i env H hq
    simp only [zhz h _ hq]; exact hr
   ·cases hr
 | seq a b =>
  simp only [zc9] at hr ⊢
  cases hx : ex cx pin a st with
  | none => simp [hx] at hr
  | some q =>
   rw [hx] at hr
   rw [h _ _ _ _ _ hx]
   obtain ⟨e, st'⟩ := q
   cases e with
   | normal => exact h _ _ _ _ _ hr
   | exit i => exact hr
   | ret => exact hr
 | cond x a b =>
  simp only [zc9] at hr ⊢
  split at hr
  ·rename_i t he
   cases hx : ex cx pin (if t = true then a else b) st with
   | none => simp [hx] at hr
   | some q =>
    rw [hx] at hr
    simp only [he, h _ _ _ _ _ hx]
    exact hr
  ·cases hr
 | block id a =>
  simp only [zc9] at hr ⊢
  cases hx : ex cx pin a st with
  | none => simp [hx] at hr
  | some q => rw [hx] at hr; rw [h _ _ _ _ _ hx]; exact hr
 | loop a =>
  simp only [zc9] at hr ⊢
  cases hx : ex cx pin a st with
  | none => simp [hx] at hr
  | some q =>
   rw [hx] at hr
   rw [h _ _ _ _ _ hx]
   obtain ⟨e, st'⟩ := q
   cases e with
   | normal => exact h _ _ _ _ _ hr
   | exit i => exact hr
   | ret => exact hr
 | rangeFunc f params assign body =>
  simp only [zc9] at hr ⊢
  cases hf : za7 st.env f with
  | none => simp [hf] at hr
  | some fv =>
  simp only [hf] at hr ⊢
  cases hl : zft cx.rnd st.marks st.H with
  | none => simp [hl] at hr
  | some q =>
  obtain ⟨d, marks, H⟩ := q
  simp only [hl] at hr ⊢
  cases fv with
  | func g first cap =>
   simp only at hr ⊢
   split at hr
   ·rename_i v H' hc
    simp only [zr8 h hc]; exact hr
   ·cases hr
  | _ => simp at hr
 | _ => simp [zc9] at hr
theorem zxq {cx : Ctx} {pin : Nat} {c : Code} {st : St} {r : Ex × St} (hex : ∀ cx pin c st r, ex cx pin c st = some r → OM P cx pin c st r) (h : zc9 P ex cx pin c st = some r) : OM P cx pin c st r :=
 fun R hR => hR ex (fun cx pin c st r he => hex cx pin c st r he R hR) cx pin c st r h
def OM1 (P : Program) (cx : Ctx) (pin : Nat) (c : Code) (st : St) (r : Ex × St) : Prop :=
 ∃ ex : ExF, (∀ cx pin c st r, ex cx pin c st = some r → OM P cx pin c st r) ∧ zc9 P ex cx pin c st = some r
theorem yanz {cx : Ctx} {pin : Nat} {c : Code} {st : St} {r : Ex × St} (h : OM P cx pin c st r) : OM1 P cx pin c st r :=
 h (fun cx pin c st r => OM1 P cx pin c st r) fun ex hex cx pin c st r hr => ⟨ex, fun cx pin c st r he => by
  obtain ⟨ex1, h1, h2⟩ := hex cx pin c st r he
  exact zxq h1 h2, hr⟩
def OMu (P : Program) (cx : Ctx) (pin : Nat) (c : Code) (st : St) (r : Ex × St) : Prop := OM P cx pin c st r ∧ ∀ r', OM P cx pin c st r' → r' = r
theorem yaqw {cx : Ctx} {pin : Nat} {c : Code} {st : St} {r : Ex × St} (h : OM P cx pin c st r) : OMu P cx pin c st r :=
 h (fun cx pin c st r => OMu P cx pin c st r) fun ex hex cx pin c st r hr => by
  refine ⟨zxq (fun cx pin c st r he => (hex cx pin c st r he).1) hr, fun r' h' => ?_⟩
  obtain ⟨ex1, h1, h2⟩ := yanz h'
  let ex2 : ExF := fun cx pin c st => match ex cx pin c st with | some r => some r | none => ex1 cx pin c st
  have l1 : Le ex ex2 := fun cx pin c st r he => by simp only [ex2, he]
  have l2 : Le ex1 ex2 := fun cx pin c st r he => by
   simp only [ex2]
   cases hx : ex cx pin c st with
   | none => exact he
   | some q => simp only; rw [(hex cx pin c st q hx).2 r (h1 cx pin c st r he)]
  have e1 := zno l1 hr
  have e2 := zno l2 h2
  rw [e1] at e2
  cases e2; rfl
theorem yag7 {cx : Ctx} {pin : Nat} {c : Code} {st : St} {r : Ex × St} : om P cx pin c st = some r ↔ OM P cx pin c st r := by
 constructor
 ·intro h
  unfold om at h
  split at h
  ·rename_i hx; cases h; exact hx.choose_spec
  ·cases h
 ·intro h
  unfold om
  have hx : ∃ r, OM P cx pin c st r := ⟨r, h⟩
  rw [dif_pos hx, (yaqw h).2 _ hx.choose_spec]
theorem zrx {cx : Ctx} {pin : Nat} {c : Code} {st : St} : om P cx pin c st = zc9 P (om P) cx pin c st := by
 apply Option.ext
 intro r
 rw [yag7]
 constructor
 ·intro h
  obtain ⟨ex, h1, h2⟩ := yanz h
  exact zno (fun cx pin c st r he => yag7.2 (h1 cx pin c st r he)) h2
 ·intro h
  exact zxq (fun cx pin c st r he => yag7.1 he) h
end
end Go.Ab
