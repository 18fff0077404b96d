/- What the law's proof leans on, part 51. Conditions: in each statement. -/
import Derived.Test.YtibehelnfbcnjaaGreatDoorQ9
import Derived.Test.YtibehelnfbcnjaaGreatDoorQ10
import Derived.Test.YtibehelnfbcnjaaGreatDoorCards
import Derived.Test.YtibehelnfbcnjaaGreatDoorTie
import Derived.KernelRfl
import Derived.Handed
import Derived.SevenTiedAt
set_option linter.all false
namespace Go.Proofs.YtibehelnfbcnjaaGreatDoor.automatonTells
open Go Go.ChangeShapes Go.WideShapes Go.ChangeAt Go.RowKit Go.Ab Go.Proofs.YtibehelnfbcnjaaGreatDoor.v
set_option linter.unusedVariables false
set_option maxRecDepth 100000
abbrev yahz : List (String × DataW Unit) := [("retarget/term.shapes", Rows.laid_retarget_term_shapes)]
theorem walk (c0 : List AV) (c1 : List AV) (c2 : List AV) (c3 : List AV) (W : World) (gl : zlg W W.heap.size) (o0 : (zay Tryz.prog 27 c0).OK W W.heap.size 0) (s0 : ∃ k, ShC Tryz.prog k 27 c0) (o1 : (zay Tryz.prog 31 c1).OK W W.heap.size 0) (s1 : ∃ k, ShC Tryz.prog k 31 c1) (o2 : (zay Tryz.prog 47 c2).OK W W.heap.size 0) (s2 : ∃ k, ShC Tryz.prog k 47 c2) (o3 : (zay Tryz.prog 31 c3).OK W W.heap.size 0) (s3 : ∃ k, ShC Tryz.prog k 31 c3) :
  Calls Tryz.prog 4 #[(zay Tryz.prog 27 c0).conc i0, (zay Tryz.prog 31 c1).conc i0, (zay Tryz.prog 47 c2).conc i0, (zay Tryz.prog 31 c3).conc i0] W fun e w' => e = .returned (.bool true) ∧ Below W.heap.size W w' := by
 obtain ⟨_, s0⟩ := s0
 obtain ⟨_, s1⟩ := s1
 obtain ⟨_, s2⟩ := s2
 obtain ⟨_, s3⟩ := s3
 obtain ⟨m, em, hR, hN⟩ := yaei s0
 obtain ⟨p, l, el, hl⟩ := zt4 s1
 obtain ⟨p2, o, eo, ho⟩ := yaiv s2
 obtain ⟨p3, S, eS, hS⟩ := zt4 s3
 rw [em] at o0 ⊢
 rw [el] at o1 ⊢
 rw [eo] at o2 ⊢
 rw [eS] at o3 ⊢
 exact yaqh (yafy m hR hN p p2 p3 l o S hl ho hS) W gl (by intro y hy; simp only [List.mem_cons, List.not_mem_nil, or_false] at hy; rcases hy with rfl | rfl | rfl | rfl <;> assumption) rfl
theorem laid : laidOutB Tryz.prog = true := by kernel_rfl
theorem params : Tryz.f4.params = #[27, 31, 47, 31] := by kernel_rfl
noncomputable abbrev zeroIn : Input := ⟨#[], #[.agg #[.string ByteArray.empty, .int .i64 0, .int .i64 0, .slice none 0 0, .slice none 0 0, .slice none 0 0, .slice none 0 0], .slice none 0 0, .slice none 0 0, .slice none 0 0], []⟩
theorem met (os : Os) : laidMet Tryz.prog yahz ((zjz os).forCall (fun _ _ => 0) zeroIn).memory := yah0 os _
theorem yaty (os : Os) (started : os.Started) (H : Type) (enc : TypeId × Value → H) :
  ReturnsInHanded {} Tryz.checked os 4 .any (fun w args => (Rows.automatonTellsSpec.pre enc Tryz.prog Tryz.f4 [] false w args ∧ laidMet Tryz.prog yahz w) ∧ sizedMet enc Tryz.prog Tryz.f4 (OpenSpec.ofChange Rows.automatonTellsSpec) false w args) (Rows.automatonTellsSpec.post enc Tryz.prog Tryz.f4 false true false false) := by
 refine returnsInHanded_of_change_and (C := Tryz.checked) (X := fun w _ => laidMet Tryz.prog yahz w) (fun _ _ _ hh h => h.of_heap hh) own started (by kernel_rfl) Tryz.func4
  (ChangeSpec.witness_at (enc := enc) (C := Tryz.checked) (os := os) (X := fun w _ => laidMet Tryz.prog yahz w) false (zjz os) zeroIn.args 8 rfl (by kernel_rfl) (by kernel_rfl) (by kernel_rfl) (by kernel_rfl) (by kernel_rfl) (met os)) ?_
 intro W base args ds gs before hval0 hW hcnd hsz0 hL _
 have hval : ∀ (j : Nat) t v, Tryz.f4.params[j]? = some t → args[j]? = some v → Value.okWide Tryz.prog W .any base t v := hval0
 have hW' := hW
 obtain ⟨p, q, hA0, hV, rfl, hfz, hnd⟩ := hW
 have hA : DataW.TrodAll enc Tryz.prog W 0 (fun _ => true) true Tryz.f4.params.toList args.toList ds p := hA0
 rw [params] at hA hval hsz0
 obtain ⟨x0, xs0, d0, ds0, p0, q0, hargs, rfl, rfl, h0, t0⟩ := trodAll_cons hA
 obtain ⟨x1, xs1, d1, ds1, p1, q1, rfl, rfl, rfl, h1, t1⟩ := trodAll_cons t0
 obtain ⟨x2, xs2, d2, ds2, p2, q2, rfl, rfl, rfl, h2, t2⟩ := trodAll_cons t1
 obtain ⟨x3, xs3, d3, ds3, p3, q3, rfl, rfl, rfl, h3, t3⟩ := trodAll_cons t2
 obtain ⟨rfl, rfl, rfl⟩ := trodAll_nil t3
 obtain rfl : args = #[x0, x1, x2, x3] := by cases args; simp_all
 obtain ⟨rfl, rfl⟩ := trodVars_none hV
 obtain ⟨n0, c0, e0, o0, s0⟩ := zmn zmt (by kernel_rfl) (hval 0 27 x0 rfl rfl) h0 (fun k hk => by simpa using List.all_eq_true.1 hsz0 k (DataW.weights_mem_each (j := 0) rfl rfl k hk))
 obtain ⟨n1, c1, e1, o1, s1⟩ := zmn zmt (by kernel_rfl) (hval 1 31 x1 rfl rfl) h1 (fun k hk => by simpa using List.all_eq_true.1 hsz0 k (DataW.weights_mem_each (j := 1) rfl rfl k hk))
 obtain ⟨n2, c2, e2, o2, s2⟩ := zmn zmt (by kernel_rfl) (hval 2 47 x2 rfl rfl) h2 (fun k hk => by simpa using List.all_eq_true.1 hsz0 k (DataW.weights_mem_each (j := 2) rfl rfl k hk))
 obtain ⟨n3, c3, e3, o3, s3⟩ := zmn zmt (by kernel_rfl) (hval 3 31 x3 rfl rfl) h3 (fun k hk => by simpa using List.all_eq_true.1 hsz0 k (DataW.weights_mem_each (j := 3) rfl rfl k hk))
 have g0 := e0 i0
 subst g0
 have g1 := e1 i0
 subst g1
 have g2 := e2 i0
 subst g2
 have g3 := e3 i0
 subst g3
 clear hA0 hval0 hsz0
 refine (walk c0 c1 c2 c3 W (yaoi hL) o0 ⟨n0, s0⟩ o1 ⟨n1, s1⟩ o2 ⟨n2, s2⟩ o3 ⟨n3, s3⟩).mono fun e W' ⟨he, bel⟩ => ?_
 subst he
 exact ⟨_, rfl, _, _, _, [], _, [], hW', trodAll_mk1 (shut_bool yaaz _), (trodAll_cons_mk (zms laid (by kernel_rfl) (by decide +kernel) h0 bel) (trodAll_cons_mk (zms laid (by kernel_rfl) (by decide +kernel) h1 bel) (trodAll_cons_mk (zms laid (by kernel_rfl) (by decide +kernel) h2 bel) (trodAll_cons_mk (zms laid (by kernel_rfl) (by decide +kernel) h3 bel) trodAll_mk0)))), rfl, bel.frame _, fun h => by cases h⟩
theorem over : Rows.automatonTellsRow.holds Tryz.pinned (OpenSpec.ofChange Rows.automatonTellsSpec) :=
 OpenClaim.holds_of_wide 4 Tryz.f4 rfl rfl rfl rfl rfl rfl rfl ⟨rfl, rfl, rfl, rfl, rfl⟩ rfl rfl rfl rfl rfl (by kernel_rfl) Tryz.func4 (by kernel_rfl)
  (of_decide_eq_true (by kernel_rfl)) (by unfold Func.isWrapper; first | (rw [if_pos (by decide +kernel)]; kernel_rfl) | (rw [if_neg (by decide +kernel)]; exact ⟨rfl, rfl⟩))
  (fun os started H enc _ => yaty os started H enc)
theorem yaz8 (j : Nat) (t : TypeId) (h : Tryz.f4.params[j]? = some t) : Tryz.prog.wantsStandIn t = false := by
 have k : (Tryz.f4.params.toList.all fun t => !Tryz.prog.wantsStandIn t) = true := by kernel_rfl
 have := List.all_eq_true.1 k t (List.mem_of_getElem? (by simpa using h))
 simpa using this
theorem card : Rows.AutomatonTellsCardSaid :=
 Claim7.holds_tied_plain_at .later [] [.data] true (true, "f3f1c8dfa5a92b7fe8ab2100c7aa43c876deaaaae71338ee5bf4f1a7da31c274") false
  over (fun _ h => by cases h) (by kernel_rfl) (fun _ h => by cases h) automatonTells_row_tie rfl ⟨rfl, rfl⟩ (by kernel_rfl) rfl
  (fun f fn hf hfn => by
   obtain rfl : f = 4 := Option.some.inj ((show Tryz.prog.funcNamed "retarget/retargetlaw29.AutomatonTells" = some 4 by kernel_rfl).symm.trans hf) |>.symm
   obtain rfl : fn = Tryz.f4 := (Option.some.inj (Tryz.func4.symm.trans hfn)).symm
   exact ⟨by kernel_rfl, fun j t ht => yaz8 j t ht⟩)
  (by kernel_rfl)
end Go.Proofs.YtibehelnfbcnjaaGreatDoor.automatonTells
namespace Go.Proofs.YtibehelnfbcnjaaGreatDoor
theorem automatonTells_holds : Rows.AutomatonTellsCardSaid := automatonTells.card
#print axioms automatonTells_holds
end Go.Proofs.YtibehelnfbcnjaaGreatDoor
