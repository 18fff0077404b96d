/- What all rows of the Format laws lean on: from a run of the interpreter to a call of the program. Conditions: none. -/
import Derived.Test.YtlbkcdfllglddaaF6
import Derived.WalkKit
import Derived.ProofKit
import Derived.OpenShut
import Derived.ShutString
import Derived.ChangeOld
import Derived.Below
import Derived.SizedLaws
namespace Go.Proofs.Ytlbkcdfllglddaa.fmt
open Go Go.Ab Go.RowKit
set_option linter.unusedVariables false
def namesB (P : Program) : Bool := P.funcs.toList.all fun f => !(f.name == "runtime.NumGoroutine")
theorem names_of {P : Program} (h : namesB P = true) : ∀ (f : Nat) (fn : Func), P.funcs[f]? = some fn → (fn.name == "runtime.NumGoroutine") = false := by
  intro f fn hf
  have := List.all_eq_true.1 h fn (List.mem_of_getElem? (by simpa using hf))
  simpa using this
theorem summOK : SummOK Try.prog := fun f args v h => by cases h
theorem names : Names Try.prog := ⟨names_of (by kernel_rfl), summOK⟩
theorem mixed : Try.prog.follows .mixedOrders = true := by kernel_rfl
theorem own : ownKnob Try.prog.godebug = none := by kernel_rfl
theorem globOK (w : World) : GlobOK w w.heap.size := fun g v h => by cases h
/-- the numbering that nothing needs -/
def i0 : Inj := fun _ => (0, 0)
theorem walk_of {f : FuncId} {args : List AV} {vs : Array Value} {H : Heap} (h : callA Try.prog (om Try.prog) 0 f args Heap.empty = some (.bool true, H)) (W : World) (hargs : ∀ a ∈ args, a.OK W W.heap.size 0)
    (hv : (args.map (AV.conc i0)).toArray = vs) : Calls Try.prog f vs W fun e w' => e = .returned (.bool true) ∧ Below W.heap.size W w' := by
  obtain ⟨n, hn⟩ := callA_depth h
  subst hv
  exact (run_sound names mixed hn W (globOK W) hargs i0).mono fun e w' ⟨⟨ι, he⟩, hb⟩ => ⟨he, hb⟩
theorem wf_int {k : IntKind} {n : Int} (h : (Lit.int k n).wf = true) : k.min ≤ n ∧ n ≤ k.max := by
  simpa [Lit.wf] using h
theorem wf_u8 {n : Int} (h : (Lit.int .u8 n).wf = true) : 0 ≤ n ∧ n ≤ 255 := wf_int h
theorem wf_i64 {n : Int} (h : (Lit.int .i64 n).wf = true) : -9223372036854775808 ≤ n ∧ n ≤ 9223372036854775807 := wf_int h
theorem wf_u64 {n : Int} (h : (Lit.int .u64 n).wf = true) : ∃ x : Nat, n = (x : Int) ∧ x < 2 ^ 64 := by
  have h2 : 0 ≤ n ∧ n ≤ 18446744073709551615 := wf_int h
  exact ⟨n.toNat, by omega, by omega⟩
end Go.Proofs.Ytlbkcdfllglddaa.fmt
