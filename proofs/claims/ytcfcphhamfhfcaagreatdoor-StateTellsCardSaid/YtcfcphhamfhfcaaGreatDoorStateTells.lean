/- What the law's proof leans on, part 52. Conditions: in each statement. -/
import Derived.Test.YtcfcphhamfhfcaaGreatDoorQ10
import Derived.Test.YtcfcphhamfhfcaaGreatDoorQ11
import Derived.Test.YtcfcphhamfhfcaaGreatDoorCards
import Derived.Test.YtcfcphhamfhfcaaGreatDoorTie
import Derived.KernelRfl
import Derived.Handed
import Derived.SevenTiedAt
set_option linter.all false
namespace Go.Proofs.YtcfcphhamfhfcaaGreatDoor.stateTells
open Go Go.ChangeShapes Go.WideShapes Go.ChangeAt Go.RowKit Go.Ab Go.Proofs.YtcfcphhamfhfcaaGreatDoor.v
set_option linter.unusedVariables false
set_option maxRecDepth 100000
abbrev yalj : List (String × DataW Unit) := [("retarget/term.shapes", Rows.laid_retarget_term_shapes)]
theorem walk (c0 : List AV) (c1 : List AV) (c2 : List AV) (c3 : List AV) (c4 : List AV) (c5 : List AV) (c6 : List AV) (W : World) (gl : znx W W.heap.size) (o0 : (za4 Tryz.prog 27 c0).OK W W.heap.size 0) (s0 : ∃ k, ShC Tryz.prog k 27 c0) (o1 : (za4 Tryz.prog 32 c1).OK W W.heap.size 0) (s1 : ∃ k, ShC Tryz.prog k 32 c1) (o2 : (za4 Tryz.prog 32 c2).OK W W.heap.size 0) (s2 : ∃ k, ShC Tryz.prog k 32 c2) (o3 : (za4 Tryz.prog 3 c3).OK W W.heap.size 0) (s3 : ∃ k, ShC Tryz.prog k 3 c3) (o4 : (za4 Tryz.prog 3 c4).OK W W.heap.size 0) (s4 : ∃ k, ShC Tryz.prog k 3 c4) (o5 : (za4 Tryz.prog 3 c5).OK W W.heap.size 0) (s5 : ∃ k, ShC Tryz.prog k 3 c5) (o6 : (za4 Tryz.prog 30 c6).OK W W.heap.size 0) (s6 : ∃ k, ShC Tryz.prog k 30 c6) :
  Calls Tryz.prog 3 #[(za4 Tryz.prog 27 c0).conc i0, (za4 Tryz.prog 32 c1).conc i0, (za4 Tryz.prog 32 c2).conc i0, (za4 Tryz.prog 3 c3).conc i0, (za4 Tryz.prog 3 c4).conc i0, (za4 Tryz.prog 3 c5).conc i0, (za4 Tryz.prog 30 c6).conc i0] W fun e w' => e = .returned (.bool true) ∧ Below W.heap.size W w' := by
 obtain ⟨_, s0⟩ := s0
 obtain ⟨_, s1⟩ := s1
 obtain ⟨_, s2⟩ := s2
 obtain ⟨_, s3⟩ := s3
 obtain ⟨_, s4⟩ := s4
 obtain ⟨_, s5⟩ := s5
 obtain ⟨_, s6⟩ := s6
 obtain ⟨m, em, hR, hN⟩ := yahd s0
 obtain ⟨r, v, s, es, hs, hn, hb⟩ := zsl s1
 obtain ⟨r', v', u, eu, hu, _, _⟩ := zsl s2
 obtain ⟨x, ex⟩ := zqn s3
 obtain ⟨w, ew⟩ := zqn s4
 obtain ⟨n, en⟩ := zqn s5
 obtain ⟨t, et, t0, _⟩ := yahf s6
 rw [em] at o0 ⊢
 rw [es] at o1 ⊢
 rw [eu] at o2 ⊢
 rw [ex] at o3 ⊢
 rw [ew] at o4 ⊢
 rw [en] at o5 ⊢
 rw [et] at o6 ⊢
 exact yavl (yatl m hR hN r v r' v' s u hs hn hb hu x w n t t0) W gl (by intro y hy; simp only [List.mem_cons, List.not_mem_nil, or_false] at hy; rcases hy with rfl | rfl | rfl | rfl | rfl | rfl | rfl <;> assumption) rfl
theorem laid : laidOutB Tryz.prog = true := by kernel_rfl
theorem params : Tryz.f3.params = #[27, 32, 32, 3, 3, 3, 30] := by kernel_rfl
noncomputable abbrev zeroIn : Input := ⟨#[], #[.agg #[.string ByteArray.empty, .int .i64 0, .int .i64 0, .slice none 0 0, .slice none 0 0, .slice none 0 0, .slice none 0 0], .agg #[.slice none 0 0, .slice none 0 0, .int .u64 0, .int .i64 0], .agg #[.slice none 0 0, .slice none 0 0, .int .u64 0, .int .i64 0], .int .i64 0, .int .i64 0, .int .i64 0, .int .u64 0], []⟩
theorem met (os : Os) : laidMet Tryz.prog yalj ((zl9 os).forCall (fun _ _ => 0) zeroIn).memory := yalk os _
theorem yazx (os : Os) (started : os.Started) (H : Type) (enc : TypeId × Value → H) :
  ReturnsInHanded {} Tryz.checked os 3 .any (fun w args => (Rows.stateTellsSpec.pre enc Tryz.prog Tryz.f3 [] false w args ∧ laidMet Tryz.prog yalj w) ∧ sizedMet enc Tryz.prog Tryz.f3 (OpenSpec.ofChange Rows.stateTellsSpec) false w args) (Rows.stateTellsSpec.post enc Tryz.prog Tryz.f3 false true false false) := by
 refine returnsInHanded_of_change_and (C := Tryz.checked) (X := fun w _ => laidMet Tryz.prog yalj w) (fun _ _ _ hh h => h.of_heap hh) own started (by kernel_rfl) Tryz.func3
  (ChangeSpec.witness_at (enc := enc) (C := Tryz.checked) (os := os) (X := fun w _ => laidMet Tryz.prog yalj w) false (zl9 os) zeroIn.args 8 rfl (by kernel_rfl) (by kernel_rfl) (by kernel_rfl) (by kernel_rfl) (by kernel_rfl) (met os)) ?_
 intro W base args ds gs before hval0 hW hcnd hsz0 hL _
 have hval : ∀ (j : Nat) t v, Tryz.f3.params[j]? = some t → args[j]? = some v → Value.okWide Tryz.prog W .any base t v := hval0
 have hW' := hW
 obtain ⟨p, q, hA0, hV, rfl, hfz, hnd⟩ := hW
 have hA : DataW.TrodAll enc Tryz.prog W 0 (fun _ => true) true Tryz.f3.params.toList args.toList ds p := hA0
 rw [params] at hA hval hsz0
 obtain ⟨x0, xs0, d0, ds0, p0, q0, hargs, rfl, rfl, h0, t0⟩ := trodAll_cons hA
 obtain ⟨x1, xs1, d1, ds1, p1, q1, rfl, rfl, rfl, h1, t1⟩ := trodAll_cons t0
 obtain ⟨x2, xs2, d2, ds2, p2, q2, rfl, rfl, rfl, h2, t2⟩ := trodAll_cons t1
 obtain ⟨x3, xs3, d3, ds3, p3, q3, rfl, rfl, rfl, h3, t3⟩ := trodAll_cons t2
 obtain ⟨x4, xs4, d4, ds4, p4, q4, rfl, rfl, rfl, h4, t4⟩ := trodAll_cons t3
 obtain ⟨x5, xs5, d5, ds5, p5, q5, rfl, rfl, rfl, h5, t5⟩ := trodAll_cons t4
 obtain ⟨x6, xs6, d6, ds6, p6, q6, rfl, rfl, rfl, h6, t6⟩ := trodAll_cons t5
 obtain ⟨rfl, rfl, rfl⟩ := trodAll_nil t6
 obtain rfl : args = #[x0, x1, x2, x3, x4, x5, x6] := by cases args; simp_all
 obtain ⟨rfl, rfl⟩ := trodVars_none hV
 obtain ⟨n0, c0, e0, o0, s0⟩ := zhu zh3 (by kernel_rfl) (hval 0 27 x0 rfl rfl) h0 (fun k hk => by simpa using List.all_eq_true.1 hsz0 k (DataW.weights_mem_each (j := 0) rfl rfl k hk))
 obtain ⟨n1, c1, e1, o1, s1⟩ := zhu zh3 (by kernel_rfl) (hval 1 32 x1 rfl rfl) h1 (fun k hk => by simpa using List.all_eq_true.1 hsz0 k (DataW.weights_mem_each (j := 1) rfl rfl k hk))
 obtain ⟨n2, c2, e2, o2, s2⟩ := zhu zh3 (by kernel_rfl) (hval 2 32 x2 rfl rfl) h2 (fun k hk => by simpa using List.all_eq_true.1 hsz0 k (DataW.weights_mem_each (j := 2) rfl rfl k hk))
 obtain ⟨n3, c3, e3, o3, s3⟩ := zhu zh3 (by kernel_rfl) (hval 3 3 x3 rfl rfl) h3 (fun k hk => by simpa using List.all_eq_true.1 hsz0 k (DataW.weights_mem_each (j := 3) rfl rfl k hk))
 obtain ⟨n4, c4, e4, o4, s4⟩ := zhu zh3 (by kernel_rfl) (hval 4 3 x4 rfl rfl) h4 (fun k hk => by simpa using List.all_eq_true.1 hsz0 k (DataW.weights_mem_each (j := 4) rfl rfl k hk))
 obtain ⟨n5, c5, e5, o5, s5⟩ := zhu zh3 (by kernel_rfl) (hval 5 3 x5 rfl rfl) h5 (fun k hk => by simpa using List.all_eq_true.1 hsz0 k (DataW.weights_mem_each (j := 5) rfl rfl k hk))
 obtain ⟨n6, c6, e6, o6, s6⟩ := zhu zh3 (by kernel_rfl) (hval 6 30 x6 rfl rfl) h6 (fun k hk => by simpa using List.all_eq_true.1 hsz0 k (DataW.weights_mem_each (j := 6) rfl rfl k hk))
 have g0 := e0 i0
 subst g0
 have g1 := e1 i0
 subst g1
 have g2 := e2 i0
 subst g2
 have g3 := e3 i0
 subst g3
 have g4 := e4 i0
 subst g4
 have g5 := e5 i0
 subst g5
 have g6 := e6 i0
 subst g6
 clear hA0 hval0 hsz0
 refine (walk c0 c1 c2 c3 c4 c5 c6 W (yate hL) o0 ⟨n0, s0⟩ o1 ⟨n1, s1⟩ o2 ⟨n2, s2⟩ o3 ⟨n3, s3⟩ o4 ⟨n4, s4⟩ o5 ⟨n5, s5⟩ o6 ⟨n6, s6⟩).mono fun e W' ⟨he, bel⟩ => ?_
 subst he
 exact ⟨_, rfl, _, _, _, [], _, [], hW', trodAll_mk1 (shut_bool yad0 _), (trodAll_cons_mk (zh2 laid (by kernel_rfl) (by decide +kernel) h0 bel) (trodAll_cons_mk (zh2 laid (by kernel_rfl) (by decide +kernel) h1 bel) (trodAll_cons_mk (zh2 laid (by kernel_rfl) (by decide +kernel) h2 bel) (trodAll_cons_mk (zh2 laid (by kernel_rfl) (by decide +kernel) h3 bel) (trodAll_cons_mk (zh2 laid (by kernel_rfl) (by decide +kernel) h4 bel) (trodAll_cons_mk (zh2 laid (by kernel_rfl) (by decide +kernel) h5 bel) (trodAll_cons_mk (zh2 laid (by kernel_rfl) (by decide +kernel) h6 bel) trodAll_mk0))))))), rfl, bel.frame _, fun h => by cases h⟩
theorem over : Rows.stateTellsRow.holds Tryz.pinned (OpenSpec.ofChange Rows.stateTellsSpec) :=
 OpenClaim.holds_of_wide 3 Tryz.f3 rfl rfl rfl rfl rfl rfl rfl ⟨rfl, rfl, rfl, rfl, rfl⟩ rfl rfl rfl rfl rfl (by kernel_rfl) Tryz.func3 (by kernel_rfl)
  (of_decide_eq_true (by kernel_rfl)) (by unfold Func.isWrapper; first | (rw [if_pos (by decide +kernel)]; kernel_rfl) | (rw [if_neg (by decide +kernel)]; exact ⟨rfl, rfl⟩))
  (fun os started H enc _ => yazx os started H enc)
theorem ya6c (j : Nat) (t : TypeId) (h : Tryz.f3.params[j]? = some t) : Tryz.prog.wantsStandIn t = false := by
 have k : (Tryz.f3.params.toList.all fun t => !Tryz.prog.wantsStandIn t) = true := by kernel_rfl
 have := List.all_eq_true.1 k t (List.mem_of_getElem? (by simpa using h))
 simpa using this
theorem card : Rows.StateTellsCardSaid :=
 Claim7.holds_tied_plain_at .later [] [.data] true (true, "000c6e37767adb6bf008f39280f44c23be12d791a3a3c98805798d984d1452aa") false
  over (fun _ h => by cases h) (by kernel_rfl) (fun _ h => by cases h) stateTells_row_tie rfl ⟨rfl, rfl⟩ (by kernel_rfl) rfl
  (fun f fn hf hfn => by
   obtain rfl : f = 3 := Option.some.inj ((show Tryz.prog.funcNamed "retarget/retargetlaw14.StateTells" = some 3 by kernel_rfl).symm.trans hf) |>.symm
   obtain rfl : fn = Tryz.f3 := (Option.some.inj (Tryz.func3.symm.trans hfn)).symm
   exact ⟨by kernel_rfl, fun j t ht => ya6c j t ht⟩)
  (by kernel_rfl)
end Go.Proofs.YtcfcphhamfhfcaaGreatDoor.stateTells
namespace Go.Proofs.YtcfcphhamfhfcaaGreatDoor
theorem stateTells_holds : Rows.StateTellsCardSaid := stateTells.card
#print axioms stateTells_holds
end Go.Proofs.YtcfcphhamfhfcaaGreatDoor
