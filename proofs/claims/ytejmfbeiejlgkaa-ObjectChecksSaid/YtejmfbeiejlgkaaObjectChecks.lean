/- ObjectChecks holds: whatever comes in, the call returns true, and what came in reads as before. Conditions: none. -/
import Derived.Test.YtejmfbeiejlgkaaB4
import Derived.KernelRfl
namespace Go.Proofs.Ytejmfbeiejlgkaa.objectChecks
open Go Go.ChangeShapes Go.WideShapes Go.ChangeAt Go.RowKit Go.Ab
set_option linter.unusedVariables false
set_option maxRecDepth 100000
theorem walk (c0 : List AV) (c1 : List AV) (c2 : List AV) (W : World) (o0 : (ofCells Try.prog 26 c0).OK W W.heap.size 0) (s0 : ShC Try.prog 8 26 c0) (o1 : (ofCells Try.prog 26 c1).OK W W.heap.size 0) (s1 : ShC Try.prog 8 26 c1) (o2 : (ofCells Try.prog 9 c2).OK W W.heap.size 0) (s2 : ShC Try.prog 8 9 c2) :
    Calls Try.prog 3 #[(ofCells Try.prog 26 c0).conc obj.i0, (ofCells Try.prog 26 c1).conc obj.i0, (ofCells Try.prog 9 c2).conc obj.i0] W fun e w' => e = .returned (.bool true) ∧ Below W.heap.size W w' := by
  obtain ⟨a, vs, vy, vr, bs, rfl, ha⟩ := obj.open_obj (n := 3) s0
  obtain ⟨b, ws, wy, wr, cs, rfl, hb⟩ := obj.open_obj (n := 3) s1
  obtain ⟨nm, rfl⟩ := obj.open_str (n := 7) s2
  have e9 : isAggT Try.prog 9 = false := by kernel_rfl
  simp only [ofCells, obj.ag26t, e9, if_true, Bool.false_eq_true, if_false, List.headD_cons] at o0 o1 o2 ⊢
  exact obj.walk_of (obj.law_run a b nm vs vy vr ws wy wr bs cs ha hb 0 Heap.empty (Nat.zero_le _)) W (by intro x hx; simp only [List.mem_cons, List.not_mem_nil, or_false] at hx; rcases hx with rfl | rfl | rfl <;> first | exact o0 | exact o1 | exact o2) rfl
theorem laid : laidOutB Try.prog = true := by kernel_rfl
theorem lifted (os : Os) (started : os.Started) (H : Type) (enc : TypeId × Value → H) :
    ReturnsInHanded {} Try.checked os 3 .any (Rows.objectChecksSpec.pre6 enc Try.prog Try.f3 Rows.objectChecksRow.domain false) (Rows.objectChecksSpec.post enc Try.prog Try.f3 false true false false) := by
  refine returnsInHanded_of_change_sized (C := Try.checked) obj.own started (by kernel_rfl) Try.func3
    (ChangeSpec.witness6 (enc := enc) (C := Try.checked) false ⟨#[], #[.agg #[.string ByteArray.empty, .slice none 0 0, .slice none 0 0, .slice none 0 0], .agg #[.string ByteArray.empty, .slice none 0 0, .slice none 0 0, .slice none 0 0], .string ByteArray.empty], []⟩ 8 (by kernel_rfl) (by kernel_rfl) (by kernel_rfl) (by kernel_rfl)) ?_
  intro W base args ds gs before hval0 hW hcnd hsz0 _
  have hval : ∀ (j : Nat) t v, Try.f3.params[j]? = some t → args[j]? = some v → Value.okWide Try.prog W .any base t v := hval0
  have hW' := hW
  obtain ⟨p, q, hA0, hV, rfl, hfz, hnd⟩ := hW
  have hA : DataW.TrodAll enc Try.prog W 0 (fun _ => true) true Try.f3.params.toList args.toList ds p := hA0
  rw [Try.params3] at hA hval
  obtain ⟨x0, xs0, d0, ds0, p0, q0, hargs, rfl, rfl, h0, t0⟩ := trodAll_cons hA
  obtain ⟨x1, xs1, d1, ds1, p1, q1, rfl, rfl, rfl, h1, t1⟩ := trodAll_cons t0
  obtain ⟨x2, xs2, d2, ds2, p2, q2, rfl, rfl, rfl, h2, t2⟩ := trodAll_cons t1
  obtain ⟨rfl, rfl, rfl⟩ := trodAll_nil t2
  obtain rfl : args = #[x0, x1, x2] := by cases args; simp_all
  obtain ⟨rfl, rfl⟩ := trodVars_none hV
  obtain ⟨c0, e0, o0, s0⟩ := open_any (n := 8) (by kernel_rfl) (hval 0 26 x0 rfl rfl) h0
  obtain ⟨c1, e1, o1, s1⟩ := open_any (n := 8) (by kernel_rfl) (hval 1 26 x1 rfl rfl) h1
  obtain ⟨c2, e2, o2, s2⟩ := open_any (n := 8) (by kernel_rfl) (hval 2 9 x2 rfl rfl) h2
  have g0 := e0 obj.i0
  subst g0
  have g1 := e1 obj.i0
  subst g1
  have g2 := e2 obj.i0
  subst g2
  clear hA0 hval0 hsz0
  refine (walk c0 c1 c2 W o0 s0 o1 s1 o2 s2).mono fun e W' ⟨he, bel⟩ => ?_
  subst he
  exact ⟨_, rfl, _, _, _, [], _, [], hW', trodAll_mk1 (shut_bool Try.underlying4 _), (trodAll_cons_mk (stay_any laid (by kernel_rfl) (by decide +kernel) h0 bel) (trodAll_cons_mk (stay_any laid (by kernel_rfl) (by decide +kernel) h1 bel) (trodAll_cons_mk (stay_any laid (by kernel_rfl) (by decide +kernel) h2 bel) trodAll_mk0))), rfl, bel.frame _, fun h => by cases h⟩
theorem over : Rows.objectChecksRow.holds Try.pinned (OpenSpec.ofChange Rows.objectChecksSpec) :=
  OpenClaim.holds_of_wide 3 Try.f3 rfl rfl rfl rfl rfl rfl rfl ⟨rfl, rfl, rfl, rfl, rfl⟩ rfl rfl rfl rfl rfl (by kernel_rfl) Try.func3 (by kernel_rfl)
    (of_decide_eq_true (by kernel_rfl)) (by unfold Func.isWrapper; first | (rw [if_pos (by decide +kernel)]; kernel_rfl) | (rw [if_neg (by decide +kernel)]; exact ⟨rfl, rfl⟩))
    (fun os started H enc _ => lifted os started H enc)
end Go.Proofs.Ytejmfbeiejlgkaa.objectChecks
namespace Go.Proofs.Ytejmfbeiejlgkaa
theorem objectChecks_holds : Rows.ObjectChecksSaid := objectChecks.over
#print axioms objectChecks_holds
end Go.Proofs.Ytejmfbeiejlgkaa
