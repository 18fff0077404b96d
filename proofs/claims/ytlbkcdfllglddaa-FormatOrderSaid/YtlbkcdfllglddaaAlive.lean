/- The chapter's examples hold: alive returns true. The kernel reckons. Conditions: none. -/
import Derived.Test.YtlbkcdfllglddaaBase
namespace Go.Proofs.Ytlbkcdfllglddaa.fmt
open Go Go.Ab Go.RowKit
set_option linter.unusedVariables false
def isT : Option (AV × Heap) → Bool | some (.bool b, _) => b | _ => false
theorem isT_spec {o : Option (AV × Heap)} (h : isT o = true) : ∃ H, o = some (.bool true, H) := by
  unfold isT at h
  split at h
  · subst h; exact ⟨_, rfl⟩
  · cases h
theorem callA_lo {P : Program} {ex : ExF} {lo lo' : Nat} {f : FuncId} {args : List AV} {H : Heap} (h : AV.rfL args = true) : callA P ex lo f args H = callA P ex lo' f args H := by
  unfold callA; simp only [h, if_true]
theorem callA_own {P : Program} {ex : ExF} {lo : Nat} {f : FuncId} {args : List AV} {H H' : Heap} {v : AV} (h : AV.rfL args = true) (hv : v.rf = true) (hc : callA P ex lo f args H = some (v, H')) : H' = H := by
  unfold callA at hc
  simp only [h, Bool.true_and] at hc
  repeat' (split at hc)
  all_goals first | (cases hc; rfl) | (cases hc; contradiction) | (cases hc)
set_option maxRecDepth 100000 in
theorem reckoned : isT (callA Try.prog (exec Try.prog 1000) 0 28 [] Heap.empty) = true := by kernel_rfl
theorem alive_run (lo : Nat) : callA Try.prog (om Try.prog) lo 28 [] Heap.empty = some (.bool true, Heap.empty) := by
  obtain ⟨H, h⟩ := isT_spec reckoned
  have h2 : callA Try.prog (om Try.prog) 0 28 [] Heap.empty = some (.bool true, H) := (callA_fin h).mono fun _ _ _ _ _ h => om_of h
  have h3 := callA_own rfl rfl h2
  subst h3
  rw [callA_lo (lo' := 0) rfl]; exact h2
end Go.Proofs.Ytlbkcdfllglddaa.fmt
