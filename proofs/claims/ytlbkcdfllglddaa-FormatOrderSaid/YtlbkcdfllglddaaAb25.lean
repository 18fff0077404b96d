/- The abstract interpreter without a depth: a fixed point of one step. Conditions: none. -/
import Derived.Test.YtlbkcdfllglddaaAb24
set_option linter.unusedSimpArgs false
set_option linter.unusedVariables false
namespace Go.Ab
open Go Go.RowKit
section

/-- one run that is leant on -/
structure Use where
  cx : Ctx
  lo : Nat
  c : Code
  st : St
  r : Ex × St
def Use.of (u : Use) (ex : ExF) : Prop := ex u.cx u.lo u.c u.st = some u.r
/-- it holds because of finitely many runs -/
def Fin (ex : ExF) (Q : ExF → Prop) : Prop := ∃ L : List Use, (∀ u ∈ L, u.of ex) ∧ ∀ ex', (∀ u ∈ L, u.of ex') → Q ex'
theorem Fin.run {ex : ExF} {cx : Ctx} {lo : Nat} {c : Code} {st : St} {r : Ex × St} (h : ex cx lo c st = some r) : Fin ex fun ex' => ex' cx lo c st = some r :=
  ⟨[⟨cx, lo, c, st, r⟩], by simpa [Use.of] using h, fun ex' k => by simpa [Use.of] using k⟩
theorem Fin.pure {ex : ExF} {Q : ExF → Prop} (h : ∀ ex', Q ex') : Fin ex Q := ⟨[], by simp, fun ex' _ => h ex'⟩
theorem Fin.imp {ex : ExF} {Q R : ExF → Prop} (h : Fin ex Q) (k : ∀ ex', Q ex' → R ex') : Fin ex R := by
  obtain ⟨L, h1, h2⟩ := h; exact ⟨L, h1, fun ex' h => k ex' (h2 ex' h)⟩
theorem Fin.both {ex : ExF} {Q R S : ExF → Prop} (h : Fin ex Q) (k : Fin ex R) (f : ∀ ex', Q ex' → R ex' → S ex') : Fin ex S := by
  obtain ⟨L, h1, h2⟩ := h; obtain ⟨M, k1, k2⟩ := k
  exact ⟨L ++ M, fun u hu => (List.mem_append.1 hu).elim (h1 u) (k1 u), fun ex' h => f ex' (h2 ex' fun u hu => h u (by simp [hu])) (k2 ex' fun u hu => h u (by simp [hu]))⟩

variable {P : Program} {ex : ExF}
theorem callA_fin [E : Env] {lo : Nat} {f : FuncId} {args : List AV} {H : Heap} {r : AV × Heap} (h : callA P ex lo f args H = some r) : Fin ex fun ex' => callA P ex' lo f args H = some r := by
  cases hf : P.funcs[f]? with
  | none => simp [callA, hf] at h
  | some fn =>
  cases hb : fn.body with
  | none => simp [callA, hf, hb] at h
  | some c =>
  cases hs : E.summ f args with
  | some v =>
    refine Fin.pure fun ex' => ?_
    unfold callA at h ⊢
    simp only [hf, hb, hs] at h ⊢
    exact h
  | none =>
  cases hx : ex ⟨f, none⟩ (if AV.rfL args = true then H.next else lo) c ⟨args ++ List.replicate (fn.ntmps - args.length) undefA, [], H⟩ with
  | none => simp [callA, hf, hb, hs, hx] at h
  | some q =>
    refine (Fin.run hx).imp fun ex' h' => ?_
    unfold callA at h ⊢
    simp only [hf, hb, hs, hx, h'] at h ⊢
    exact h
theorem roundA_fin [E : Env] {lo l : Nat} {args : List AV} {H : Heap} {r : AV × Heap} (h : roundA ex lo l args H = some r) : Fin ex fun ex' => roundA ex' lo l args H = some r := by
  unfold roundA at h
  split at h
  · rename_i st pend fn tmps params assign body d hl
    split at h
    · rename_i hlo
      cases hp : setParams tmps params args with
      | none => simp [hp] at h
      | some env =>
      simp only [hp] at h
      cases hx : ex ⟨fn, some l⟩ lo assign ⟨env, [], H⟩ with
      | none => simp [hx] at h
      | some q =>
      simp only [hx] at h
      split at h
      · rename_i env' H' hq
        cases hq
        split at h
        · rename_i pend fn1 tmps1 params1 assign1 body1 d1 hg
          cases hy : ex ⟨fn, some l⟩ lo body ⟨env', [], H'.set l (.loop .busy pend fn1 tmps1 params1 assign1 body1 d1)⟩ with
          | none => simp [hy] at h
          | some q2 =>
            refine (Fin.run hx).both (Fin.run hy) fun ex' h1 h2 => ?_
            unfold roundA
            simp only [hl, hlo, if_true, hp, h1, hg, h2]
            rw [hy] at h
            exact h
        · cases h
      · cases h
    · cases h
  · cases h
theorem callV_fin [E : Env] {lo : Nat} {f : AV} {args : List AV} {H : Heap} {r : AV × Heap} (h : callV P ex lo f args H = some r) : Fin ex fun ex' => callV P ex' lo f args H = some r := by
  unfold callV at h ⊢
  split at h
  · exact callA_fin h
  · exact roundA_fin h
  · cases h
theorem opA_fin [E : Env] {lo : Nat} {env : List AV} {H : Heap} {o : Oper} {r : AV × Heap} (h : opA P ex lo env H o = some r) : Fin ex fun ex' => opA P ex' lo env H o = some r := by
  by_cases hc : ∃ f args ts, o.op = .call { callee := .value f, args := args, argTypes := ts }
  · obtain ⟨f, args, ts, ho⟩ := hc
    simp only [opA, ho] at h
    obtain ⟨f', h1, h2⟩ := bind1 h
    obtain ⟨vs, h3, h4⟩ := bind1 h2
    refine (callV_fin h4).imp fun ex' k => ?_
    simp only [opA, ho, h1, h3, Option.bind]; exact k
  · have e : ∀ ex : ExF, opA P ex lo env H o = aop P lo env H o := by
      intro ex
      unfold opA
      split
      · rename_i ho; exact absurd ⟨_, _, _, ho⟩ hc
      · rfl
    refine Fin.pure fun ex' => ?_
    rw [e] at h ⊢; exact h
theorem runOps_fin [E : Env] {lo : Nat} {ops : Array Oper} : ∀ (l : List Oper) {env : List AV} {H : Heap} {r : List AV × Heap}, runOps P ex lo ops l env H = some r → Fin ex fun ex' => runOps P ex' lo ops l env H = some r
  | [], env, H, r, h => Fin.pure fun _ => h
  | o :: rest, env, H, r, h => by
    simp only [runOps] at h ⊢
    split at h
    · rename_i hw
      simp only [hw, if_true]
      cases ho : opA P ex lo env H o with
      | none => simp [ho] at h
      | some q =>
      simp only [ho] at h
      refine (opA_fin ho).both (runOps_fin rest h) fun ex' h1 h2 => ?_
      simp only [h1]; exact h2
    · rename_i hw
      simp only [hw]
      exact runOps_fin rest h
theorem runQuiet_fin [E : Env] {ops : Array Oper} {bef : Array Nat} : ∀ (l : List Oper) {i : Nat} {env : List AV} {H : Heap} {kept : List (Nat × Nat × Nat)} {r : List AV × Heap}, runQuiet P ex ops bef i l env H kept = some r → Fin ex fun ex' => runQuiet P ex' ops bef i l env H kept = some r
  | [], i, env, H, kept, r, h => Fin.pure fun _ => by simpa only [runQuiet] using h
  | o :: rest, i, env, H, kept, r, h => by
    simp only [runQuiet] at h ⊢
    split at h
    · rename_i hw
      simp only [hw, if_true]
      split at h
      · rename_i hf
        simp only [hf, if_true]
        cases ho : opA P ex H.next env H o with
        | none => simp [ho] at h
        | some q =>
        simp only [ho] at h
        split at h
        · rename_i hc
          refine (opA_fin ho).both (runQuiet_fin rest h) fun ex' h1 h2 => ?_
          simp only [h1, hc, if_true]; exact h2
        · cases h
      · rename_i hf
        simp only [hf, Bool.false_eq_true, if_false]
        cases ho : opA P ex H.next env (viewA H (bef.getD i 0) kept) o with
        | none => rw [ho] at h; cases h
        | some q =>
        simp only [ho] at h
        split at h
        · cases h
        · rename_i hc
          split at h
          · rename_i hd
            refine (opA_fin ho).both (runQuiet_fin rest h) fun ex' h1 h2 => ?_
            simp only [h1, hc, hd, if_true]; exact h2
          · rename_i hd
            split at h
            · cases h
            · rename_i he
              refine (opA_fin ho).both (runQuiet_fin rest h) fun ex' h1 h2 => ?_
              simp only [h1, hc, hd, he]; exact h2
    · rename_i hw
      simp only [hw]
      exact runQuiet_fin rest h
theorem runDraw_fin [E : Env] {lo : Nat} {ops : Array Oper} {env : List AV} {H : Heap} {r : List AV × Heap} (h : runDraw P ex lo ops env H = some r) : Fin ex fun ex' => runDraw P ex' lo ops env H = some r := by
  unfold runDraw at h ⊢
  dsimp only at h ⊢
  split at h
  · rename_i hc
    simp only [hc, if_true]
    split at h
    · rename_i env1 H1 hq
      refine (runQuiet_fin _ hq).both (runOps_fin _ h) fun ex' h1 h2 => ?_
      simp only [h1]; exact h2
    · cases h
  · cases h
theorem stepX_fin [E : Env] {cx : Ctx} {lo : Nat} {c : Code} {st : St} {r : Ex × St} (h : stepX P ex cx lo c st = some r) : Fin ex fun ex' => stepX P ex' cx lo c st = some r := by
  cases c with
  | skip => exact Fin.pure fun _ => h
  | ret => exact Fin.pure fun _ => h
  | exit id => exact Fin.pure fun _ => h
  | region id ops draw =>
    simp only [stepX] at h ⊢
    cases draw with
    | true =>
      simp only [if_true] at h ⊢
      split at h
      · rename_i env H hq
        refine (runDraw_fin hq).imp fun ex' h1 => ?_
        simp only [h1]; exact h
      · cases h
    | false =>
      simp only [Bool.false_eq_true, if_false] at h ⊢
      split at h
      · rename_i env H hq
        refine (runOps_fin _ hq).imp fun ex' h1 => ?_
        simp only [h1]; exact h
      · cases h
  | seq a b =>
    simp only [stepX] at h ⊢
    split at h
    · rename_i st' hx
      refine (Fin.run hx).both (Fin.run h) fun ex' h1 h2 => ?_
      simp only [h1]; exact h2
    · rename_i hn
      refine (Fin.run h).imp fun ex' h1 => ?_
      rw [h1]
      split
      · rename_i st' he; exact absurd (h.trans he) (hn st')
      · rfl
  | cond x a b =>
    simp only [stepX] at h
    split at h
    · rename_i t he
      refine (Fin.run h).imp fun ex' h1 => ?_
      simp only [stepX, he]
      exact h1
    · cases h
  | block id a =>
    simp only [stepX] at h ⊢
    split at h
    · rename_i id' st' hx
      refine (Fin.run hx).imp fun ex' h1 => ?_
      simp only [h1]; exact h
    · rename_i hn
      refine (Fin.run h).imp fun ex' h1 => ?_
      rw [h1]
      split
      · rename_i id' st' he; exact absurd (h.trans he) (hn id' st')
      · rfl
  | loop a =>
    simp only [stepX] at h ⊢
    split at h
    · rename_i st' hx
      refine (Fin.run hx).both (Fin.run h) fun ex' h1 h2 => ?_
      simp only [h1]; exact h2
    · rename_i hn
      refine (Fin.run h).imp fun ex' h1 => ?_
      rw [h1]
      split
      · rename_i st' he; exact absurd (h.trans he) (hn st')
      · rfl
  | rangeFunc f params assign body =>
    simp only [stepX] at h ⊢
    cases hf : evalO st.env f with
    | none => simp [hf] at h
    | some fv =>
    simp only [hf] at h ⊢
    cases hl : loopStart cx.rnd st.marks st.H with
    | none => simp [hl] at h
    | some q =>
    obtain ⟨d, marks, H⟩ := q
    simp only [hl] at h ⊢
    cases fv with
    | func g first cap =>
      simp only at h ⊢
      split at h
      · rename_i v H' hc
        refine (callA_fin hc).imp fun ex' h1 => ?_
        simp only [h1]; exact h
      · cases h
    | _ => simp at h
  | _ => simp [stepX] at h

/-- the interpreter: what it says at some depth -/
noncomputable def om [E : Env] (P : Program) : ExF := fun cx lo c st => by
  classical exact if h : ∃ r, ∃ n, exec P n cx lo c st = some r then some h.choose else none

theorem Fin.mono {Q : ExF → Prop} {ex' : ExF} (h : Fin ex Q) (k : ∀ cx lo c st r, ex cx lo c st = some r → ex' cx lo c st = some r) : Q ex' := by
  obtain ⟨L, h1, h2⟩ := h
  exact h2 ex' fun u hu => k _ _ _ _ _ (h1 u hu)
theorem exec_le [E : Env] : ∀ n cx lo c st r, exec P n cx lo c st = some r → exec P (n + 1) cx lo c st = some r
  | 0, _, _, _, _, _, h => by rw [exec_zero] at h; cases h
  | n + 1, cx, lo, c, st, r, h => by
    rw [exec_succ] at h ⊢
    exact (stepX_fin h).mono (exec_le n)
theorem exec_mono [E : Env] {n m : Nat} (h : n ≤ m) : ∀ cx lo c st r, exec P n cx lo c st = some r → exec P m cx lo c st = some r := by
  induction h with
  | refl => exact fun _ _ _ _ _ h => h
  | step _ ih => exact fun cx lo c st r h => exec_le _ _ _ _ _ _ (ih cx lo c st r h)
theorem om_of [E : Env] {n : Nat} {cx : Ctx} {lo : Nat} {c : Code} {st : St} {r : Ex × St} (h : exec P n cx lo c st = some r) : om P cx lo c st = some r := by
  unfold om
  have hex : ∃ r, ∃ n, exec P n cx lo c st = some r := ⟨r, n, h⟩
  rw [dif_pos hex]
  obtain ⟨m, hm⟩ := hex.choose_spec
  have e1 := exec_mono (Nat.le_max_left n m) _ _ _ _ _ h
  have e2 := exec_mono (Nat.le_max_right n m) _ _ _ _ _ hm
  rw [e1] at e2
  exact e2.symm
theorem of_om [E : Env] {cx : Ctx} {lo : Nat} {c : Code} {st : St} {r : Ex × St} (h : om P cx lo c st = some r) : ∃ n, exec P n cx lo c st = some r := by
  unfold om at h
  split at h
  · rename_i hex
    have := hex.choose_spec
    cases h
    exact this
  · cases h
/-- what follows from runs of 'om' follows from runs at a depth -/
theorem Fin.depth [E : Env] {Q : ExF → Prop} (h : Fin (om P) Q) : ∃ n, ∀ m, n ≤ m → Q (exec P m) := by
  obtain ⟨L, h1, h2⟩ := h
  suffices ∃ n, ∀ m, n ≤ m → ∀ u ∈ L, u.of (exec P m) by
    obtain ⟨n, hn⟩ := this; exact ⟨n, fun m hm => h2 _ (hn m hm)⟩
  clear h2
  induction L with
  | nil => exact ⟨0, by simp⟩
  | cons u L ih =>
    obtain ⟨n, hn⟩ := ih fun v hv => h1 v (by simp [hv])
    obtain ⟨k, hk⟩ := of_om (h1 u (by simp))
    refine ⟨max n k, fun m hm v hv => ?_⟩
    rcases List.mem_cons.1 hv with rfl | hv
    · exact exec_mono (by omega) _ _ _ _ _ hk
    · exact hn m (by omega) v hv
theorem om_eq [E : Env] (cx : Ctx) (lo : Nat) (c : Code) (st : St) : om P cx lo c st = stepX P (om P) cx lo c st := by
  apply Option.ext
  intro r
  constructor
  · intro h
    obtain ⟨n, hn⟩ := of_om h
    cases n with
    | zero => rw [exec_zero] at hn; cases hn
    | succ n =>
      rw [exec_succ] at hn
      exact (stepX_fin hn).mono fun _ _ _ _ _ h => om_of h
  · intro h
    obtain ⟨n, hn⟩ := (stepX_fin h).depth
    exact om_of (n := n + 1) (by rw [exec_succ]; exact hn n (Nat.le_refl n))
theorem callA_depth [E : Env] {lo : Nat} {f : FuncId} {args : List AV} {H : Heap} {r : AV × Heap} (h : callA P (om P) lo f args H = some r) : ∃ n, callA P (exec P n) lo f args H = some r := by
  obtain ⟨n, hn⟩ := (callA_fin h).depth
  exact ⟨n, hn n (Nat.le_refl n)⟩
end
end Go.Ab
