/- The abstract interpreter: summaries that are added; steps of symbolic runs. Conditions: none. -/
import Derived.Test.YtlbkcdfllglddaaAb22
set_option linter.unusedSimpArgs false
set_option linter.unusedVariables false
namespace Go.Ab
open Go Go.RowKit

/-- one more function whose calls are told by what is proved of them -/
@[instance_reducible] def Env.add (E : Env) (f0 : FuncId) (S : List AV → Option AV) : Env := ⟨E.glob, fun f args => if f = f0 then S args else E.summ f args⟩

mutual
/-- a value without own memory in it is the same in each numbering -/
theorem conc_rf (ι ι' : Inj) : ∀ v : AV, v.rf = true → v.conc ι' = v.conc ι
  | .bool _, _ | .int _ _, _ | .str _, _ | .nilp, _ | .nilf, _ | .nili, _ | .map none, _ | .rptr _ _, _ | .rsl _ _ _ _, _ => rfl
  | .ptr _ _, k | .sl _ _ _ _, k | .map (some _), k | .yieldf _, k => by simp [AV.rf] at k
  | .func _ a b, k => by simp only [AV.rf, Bool.and_eq_true] at k; simp only [AV.conc, concL_rf ι ι' a k.1, concL_rf ι ι' b k.2]
  | .iface _ v, k => by simp only [AV.rf] at k; simp only [AV.conc, conc_rf ι ι' v k]
  | .agg l, k | .tup l, k => by simp only [AV.rf] at k; simp only [AV.conc, concL_rf ι ι' l k]
theorem concL_rf (ι ι' : Inj) : ∀ l : List AV, AV.rfL l = true → AV.concL ι' l = AV.concL ι l
  | [], _ => rfl
  | v :: vs, k => by simp only [AV.rfL, Bool.and_eq_true] at k; simp only [AV.concL, conc_rf ι ι' v k.1, concL_rf ι ι' vs k.2]
end

theorem SummOK.add {E : Env} {P : Program} (hN : Names P) (hm : P.follows .mixedOrders = true) {f0 : FuncId} {S : List AV → Option AV}
    (h : ∀ args v, S args = some v → v.rf = true ∧ (∃ n H', callA P (exec P n) 0 f0 args Heap.empty = some (v, H')) ∧ ∀ w0 base, AV.OKL w0 base 0 args → v.OK w0 base 0) : @SummOK (E.add f0 S) P := by
  intro f args v hs hrf
  change (if f = f0 then S args else E.summ f args) = some v at hs
  split at hs
  · rename_i e
    subst e
    obtain ⟨h1, ⟨n, H', h2⟩, h3⟩ := h args v hs
    refine ⟨h3, fun w ι gl hok => ?_⟩
    refine (run_sound hN hm h2 w gl ((OKL_iff ..).1 hok) ι).mono fun e w' ⟨⟨ι', he⟩, hb⟩ => ⟨?_, hb⟩
    rw [he, conc_rf ι ι' v h1]
  · exact hN.summ f args v hs hrf
theorem Names.add {E : Env} {P : Program} (hN : Names P) (hm : P.follows .mixedOrders = true) {f0 : FuncId} {S : List AV → Option AV}
    (h : ∀ args v, S args = some v → v.rf = true ∧ (∃ n H', callA P (exec P n) 0 f0 args Heap.empty = some (v, H')) ∧ ∀ w0 base, AV.OKL w0 base 0 args → v.OK w0 base 0) : @Names (E.add f0 S) P :=
  @Names.mk (E.add f0 S) P hN.names (SummOK.add hN hm h)

section
variable {P : Program} {n : Nat} {cx : Ctx} {lo : Nat} {st : St}
theorem ex_seq [E : Env] {a b : Code} : exec P (n + 1) cx lo (.seq a b) st = (match exec P n cx lo a st with | some (.normal, st) => exec P n cx lo b st | r => r) := rfl
theorem ex_ret [E : Env] : exec P (n + 1) cx lo .ret st = some (.ret, st) := rfl
theorem ex_exit [E : Env] {i : Nat} : exec P (n + 1) cx lo (.exit i) st = some (.exit i, st) := rfl
theorem ex_skip [E : Env] : exec P (n + 1) cx lo .skip st = some (.normal, st) := rfl
theorem ex_cond [E : Env] {x : Operand} {a b : Code} : exec P (n + 1) cx lo (.cond x a b) st = (match evalO st.env x with
    | some (.bool t) => exec P n cx lo (if t then a else b) st
    | _ => none) := rfl
theorem ex_block [E : Env] {i : Nat} {a : Code} : exec P (n + 1) cx lo (.block i a) st = (match exec P n cx lo a st with
    | some (.exit id', st) => some (if id' = i then .normal else .exit id', st)
    | r => r) := rfl
theorem ex_loop [E : Env] {a : Code} : exec P (n + 1) cx lo (.loop a) st = (match exec P n cx lo a st with
    | some (.normal, st) => exec P n cx lo (.loop a) st
    | r => r) := rfl
theorem ex_region [E : Env] {i : Nat} {ops : Array Oper} : exec P (n + 1) cx lo (.region i ops false) st = (match runOps P (exec P n) lo ops ops.toList st.env st.H with | some (env, H) => some (.normal, ⟨env, st.marks, H⟩) | none => none) := rfl
theorem ex_draw [E : Env] {i : Nat} {ops : Array Oper} : exec P (n + 1) cx lo (.region i ops true) st = (match runDraw P (exec P n) lo ops st.env st.H with | some (env, H) => some (.normal, ⟨env, st.marks, H⟩) | none => none) := rfl
end
end Go.Ab
