/- The program's functions with resolved regions (printed by a program of this repo) and what follows. Conditions: in each statement. -/
import Derived.Test.YtejmfbeiejlgkaaB1
import Derived.Test.YtejmfbeiejlgkaaA3
/-! The program's functions with resolved regions (printed by a program of this repo). Conditions: none. -/
namespace Go.Proofs.Ytejmfbeiejlgkaa.obj
open Go Go.Ab
set_option maxRecDepth 100000
set_option linter.unusedSimpArgs false
set_option linter.unusedVariables false
noncomputable def c3_r0 : Code := regOf Try.f3 0
noncomputable def o3_0 : List O := [⟨some 3, none, true, .box 26 4 (.s 0)⟩,
  ⟨some 4, none, true, .box 26 4 (.s 1)⟩,
  ⟨some 6, none, true, .mv (.v (.bool false))⟩]
theorem g3_0 {cx : Ctx} {lo : Nat} {st : St} : om Try.prog cx lo c3_r0 st = reg st.marks (R2 Try.prog lo o3_0 st.env st.H) := res_run (by kernel_rfl)
noncomputable def c3_r1 : Code := regOf Try.f3 1
noncomputable def o3_1 : List O := [⟨some 18, none, true, .ld (some 4) (.s 3)⟩,
  ⟨some 19, none, false, .call 4 [(.s 18)]⟩,
  ⟨some 20, none, true, .mv (.s 19)⟩,
  ⟨some 21, (some (some 20, false)), true, .ld (some 4) (.s 4)⟩,
  ⟨some 22, (some (some 20, false)), false, .call 4 [(.s 21)]⟩,
  ⟨some 23, none, true, .pick (.s 20) (.v (.bool true)) (.s 22)⟩,
  ⟨some 24, none, true, .mv (.s 23)⟩,
  ⟨some 25, (some (some 24, false)), true, .mv (.s 2)⟩,
  ⟨some 26, (some (some 24, false)), false, .lens (.s 25)⟩,
  ⟨some 27, (some (some 24, false)), true, .bin .gtr 3 (.s 26) (.v (.int .i64 300))⟩,
  ⟨some 28, none, true, .pick (.s 24) (.v (.bool true)) (.s 27)⟩]
theorem g3_1 {cx : Ctx} {lo : Nat} {st : St} : om Try.prog cx lo c3_r1 st = reg st.marks (R2 Try.prog lo o3_1 st.env st.H) := res_run (by kernel_rfl)
noncomputable def c3_r2 : Code := regOf Try.f3 2
noncomputable def o3_2 : List O := [⟨some 6, none, true, .mv (.v (.bool true))⟩]
theorem g3_2 {cx : Ctx} {lo : Nat} {st : St} : om Try.prog cx lo c3_r2 st = reg st.marks (R2 Try.prog lo o3_2 st.env st.H) := res_run (by kernel_rfl)
noncomputable def c3_r3 : Code := regOf Try.f3 3
noncomputable def o3_3 : List O := [⟨some 29, none, true, .ld (some 4) (.s 3)⟩,
  ⟨some 30, none, false, .call 5 [(.s 29)]⟩,
  ⟨some 7, none, true, .new 26 [(.str ByteArray.empty), (.rsl none 0 0 []), (.rsl none 0 0 []), (.rsl none 0 0 [])]⟩,
  ⟨none, none, false, .st 4 (.s 7) (.s 30)⟩]
theorem g3_3 {cx : Ctx} {lo : Nat} {st : St} : om Try.prog cx lo c3_r3 st = reg st.marks (R2 Try.prog lo o3_3 st.env st.H) := res_run (by kernel_rfl)
noncomputable def c3_r4 : Code := regOf Try.f3 4
noncomputable def o3_4 : List O := [⟨some 32, none, true, .ld (some 4) (.s 3)⟩,
  ⟨some 33, none, true, .mv (.s 2)⟩,
  ⟨some 34, none, false, .call 6 [(.s 32), (.s 33)]⟩,
  ⟨some 31, none, true, .mv (.s 34)⟩,
  ⟨some 35, none, true, .ext 0 (.s 31)⟩,
  ⟨some 36, none, true, .ext 1 (.s 31)⟩,
  ⟨some 8, none, true, .mv (.s 35)⟩,
  ⟨some 9, none, true, .mv (.s 36)⟩]
theorem g3_4 {cx : Ctx} {lo : Nat} {st : St} : om Try.prog cx lo c3_r4 st = reg st.marks (R2 Try.prog lo o3_4 st.env st.H) := res_run (by kernel_rfl)
noncomputable def c3_r5 : Code := regOf Try.f3 5
noncomputable def o3_5 : List O := [⟨some 38, none, true, .ld (some 4) (.s 3)⟩,
  ⟨some 39, none, true, .mv (.s 2)⟩,
  ⟨some 40, none, false, .call 7 [(.s 38), (.s 39)]⟩,
  ⟨some 37, none, true, .mv (.s 40)⟩,
  ⟨some 41, none, true, .ext 0 (.s 37)⟩,
  ⟨some 42, none, true, .ext 1 (.s 37)⟩,
  ⟨some 10, none, true, .mv (.s 41)⟩,
  ⟨some 11, none, true, .mv (.s 42)⟩]
theorem g3_5 {cx : Ctx} {lo : Nat} {st : St} : om Try.prog cx lo c3_r5 st = reg st.marks (R2 Try.prog lo o3_5 st.env st.H) := res_run (by kernel_rfl)
noncomputable def c3_r6 : Code := regOf Try.f3 6
noncomputable def o3_6 : List O := [⟨some 43, none, true, .ld (some 4) (.s 3)⟩,
  ⟨some 44, none, false, .call 8 [(.s 43)]⟩,
  ⟨some 12, none, true, .new 26 [(.str ByteArray.empty), (.rsl none 0 0 []), (.rsl none 0 0 []), (.rsl none 0 0 [])]⟩,
  ⟨none, none, false, .st 4 (.s 12) (.s 44)⟩]
theorem g3_6 {cx : Ctx} {lo : Nat} {st : St} : om Try.prog cx lo c3_r6 st = reg st.marks (R2 Try.prog lo o3_6 st.env st.H) := res_run (by kernel_rfl)
noncomputable def c3_r7 : Code := regOf Try.f3 7
noncomputable def o3_7a : List O := [⟨some 45, none, true, .mv (.s 8)⟩,
  ⟨some 46, none, true, .mv (.s 10)⟩,
  ⟨some 47, none, true, .bin .eql 3 (.s 45) (.s 46)⟩,
  ⟨some 48, none, true, .mv (.s 47)⟩,
  ⟨some 49, (some (some 48, true)), true, .mv (.s 9)⟩,
  ⟨some 50, (some (some 48, true)), true, .mv (.s 11)⟩,
  ⟨some 51, (some (some 48, true)), true, .bin .eql 3 (.s 49) (.s 50)⟩,
  ⟨some 52, none, true, .pick (.s 48) (.s 51) (.v (.bool false))⟩,
  ⟨some 53, none, true, .mv (.s 52)⟩,
  ⟨some 54, (some (some 53, true)), true, .ld (some 4) (.s 3)⟩,
  ⟨some 55, (some (some 53, true)), false, .call 9 [(.s 54)]⟩,
  ⟨some 56, (some (some 53, true)), true, .ld (some 4) (.s 3)⟩,
  ⟨some 57, (some (some 53, true)), false, .call 10 [(.s 56)]⟩,
  ⟨some 58, (some (some 53, true)), true, .bin .eql 3 (.s 55) (.s 57)⟩,
  ⟨some 59, none, true, .pick (.s 53) (.s 58) (.v (.bool false))⟩,
  ⟨some 60, none, true, .mv (.s 59)⟩,
  ⟨some 61, (some (some 60, true)), true, .ld (some 4) (.s 3)⟩,
  ⟨some 62, (some (some 60, true)), true, .ld (some 4) (.s 4)⟩,
  ⟨some 63, (some (some 60, true)), false, .call 11 [(.s 61), (.s 62)]⟩,
  ⟨some 64, (some (some 60, true)), true, .ld (some 4) (.s 3)⟩,
  ⟨some 65, (some (some 60, true)), true, .ld (some 4) (.s 4)⟩,
  ⟨some 66, (some (some 60, true)), false, .call 12 [(.s 64), (.s 65)]⟩,
  ⟨some 67, (some (some 60, true)), true, .bin .eql 4 (.s 63) (.s 66)⟩,
  ⟨some 68, none, true, .pick (.s 60) (.s 67) (.v (.bool false))⟩,
  ⟨some 69, none, true, .mv (.s 68)⟩,
  ⟨some 70, (some (some 69, true)), true, .ld (some 4) (.s 3)⟩,
  ⟨some 71, (some (some 69, true)), true, .ld (some 4) (.s 12)⟩]
noncomputable def o3_7b : List O := [⟨some 72, (some (some 69, true)), false, .call 12 [(.s 70), (.s 71)]⟩,
  ⟨some 73, none, true, .pick (.s 69) (.s 72) (.v (.bool false))⟩,
  ⟨some 13, none, true, .mv (.s 73)⟩]
theorem g3_7 {rnd : Option Nat} {lo : Nat} {st : St} : om Try.prog ⟨3, rnd⟩ lo c3_r7 st = reg st.marks (dre (stl (S2 Try.prog o3_7a st.env st.H) (K4 Try.prog lo o3_7b)) (Fb Try.prog lo c3_r7 st.env st.H)) := resD_run (by kernel_rfl) rfl
noncomputable def c3_r8 : Code := regOf Try.f3 8
noncomputable def o3_8 : List O := [⟨some 14, none, true, .mv (.v (.int .i64 0))⟩]
theorem g3_8 {cx : Ctx} {lo : Nat} {st : St} : om Try.prog cx lo c3_r8 st = reg st.marks (R2 Try.prog lo o3_8 st.env st.H) := res_run (by kernel_rfl)
noncomputable def c3_r9 : Code := regOf Try.f3 9
noncomputable def o3_9 : List O := [⟨some 74, none, true, .mv (.s 14)⟩,
  ⟨some 75, none, true, .fa 1 (.s 12)⟩,
  ⟨some 76, none, true, .ld none (.s 75)⟩,
  ⟨some 77, none, false, .lenl (.s 76)⟩,
  ⟨some 78, none, true, .bin .lss 3 (.s 74) (.s 77)⟩]
theorem g3_9 {cx : Ctx} {lo : Nat} {st : St} : om Try.prog cx lo c3_r9 st = reg st.marks (R2 Try.prog lo o3_9 st.env st.H) := res_run (by kernel_rfl)
noncomputable def c3_r11 : Code := regOf Try.f3 11
noncomputable def o3_11 : List O := [⟨some 15, none, true, .mv (.v (.int .i64 0))⟩]
theorem g3_11 {cx : Ctx} {lo : Nat} {st : St} : om Try.prog cx lo c3_r11 st = reg st.marks (R2 Try.prog lo o3_11 st.env st.H) := res_run (by kernel_rfl)
noncomputable def c3_r12 : Code := regOf Try.f3 12
noncomputable def o3_12 : List O := [⟨some 81, none, true, .mv (.s 15)⟩,
  ⟨some 82, none, true, .fa 1 (.s 12)⟩,
  ⟨some 83, none, true, .ld none (.s 82)⟩,
  ⟨some 84, none, true, .mv (.s 14)⟩,
  ⟨some 85, none, true, .ixs 3 (.s 83) (.s 84)⟩,
  ⟨some 86, none, true, .fa 2 (.s 85)⟩,
  ⟨some 87, none, true, .ld none (.s 86)⟩,
  ⟨some 88, none, false, .lenl (.s 87)⟩,
  ⟨some 89, none, true, .bin .lss 3 (.s 81) (.s 88)⟩]
theorem g3_12 {cx : Ctx} {lo : Nat} {st : St} : om Try.prog cx lo c3_r12 st = reg st.marks (R2 Try.prog lo o3_12 st.env st.H) := res_run (by kernel_rfl)
noncomputable def c3_r14 : Code := regOf Try.f3 14
noncomputable def o3_14 : List O := [⟨some 92, none, true, .fa 1 (.s 12)⟩,
  ⟨some 93, none, true, .ld none (.s 92)⟩,
  ⟨some 94, none, true, .mv (.s 14)⟩,
  ⟨some 95, none, true, .ixs 3 (.s 93) (.s 94)⟩,
  ⟨some 96, none, true, .fa 2 (.s 95)⟩,
  ⟨some 97, none, true, .ld none (.s 96)⟩,
  ⟨some 98, none, true, .mv (.s 15)⟩,
  ⟨some 99, none, true, .ixs 1 (.s 97) (.s 98)⟩,
  ⟨some 100, none, true, .ld none (.s 99)⟩,
  ⟨some 101, none, true, .bin .add 5 (.s 100) (.v (.int .u8 1))⟩,
  ⟨some 102, none, true, .ixs 1 (.s 97) (.s 98)⟩,
  ⟨none, none, false, .st 1 (.s 102) (.s 101)⟩]
theorem g3_14 {cx : Ctx} {lo : Nat} {st : St} : om Try.prog cx lo c3_r14 st = reg st.marks (R2 Try.prog lo o3_14 st.env st.H) := res_run (by kernel_rfl)
noncomputable def c3_r13 : Code := regOf Try.f3 13
noncomputable def o3_13 : List O := [⟨some 90, none, true, .mv (.s 15)⟩,
  ⟨some 91, none, true, .bin .add 3 (.s 90) (.v (.int .i64 1))⟩,
  ⟨some 15, none, true, .mv (.s 91)⟩]
theorem g3_13 {cx : Ctx} {lo : Nat} {st : St} : om Try.prog cx lo c3_r13 st = reg st.marks (R2 Try.prog lo o3_13 st.env st.H) := res_run (by kernel_rfl)
noncomputable def c3_b1 : Code := (.seq (.seq c3_r12 (.cond (.tmp 89) .skip (.exit 2))) (.seq (.block 3 c3_r14) c3_r13))
noncomputable def c3_l1 : Code := .loop c3_b1
noncomputable def c3_r15 : Code := regOf Try.f3 15
noncomputable def o3_15 : List O := [⟨some 103, none, true, .fa 1 (.s 12)⟩,
  ⟨some 104, none, true, .ld none (.s 103)⟩,
  ⟨some 105, none, true, .mv (.s 14)⟩,
  ⟨some 106, none, true, .ixs 3 (.s 104) (.s 105)⟩,
  ⟨some 107, none, true, .fa 1 (.s 106)⟩,
  ⟨none, none, false, .st 1 (.s 107) (.v (.int .i64 77))⟩]
theorem g3_15 {cx : Ctx} {lo : Nat} {st : St} : om Try.prog cx lo c3_r15 st = reg st.marks (R2 Try.prog lo o3_15 st.env st.H) := res_run (by kernel_rfl)
noncomputable def c3_r10 : Code := regOf Try.f3 10
noncomputable def o3_10 : List O := [⟨some 79, none, true, .mv (.s 14)⟩,
  ⟨some 80, none, true, .bin .add 3 (.s 79) (.v (.int .i64 1))⟩,
  ⟨some 14, none, true, .mv (.s 80)⟩]
theorem g3_10 {cx : Ctx} {lo : Nat} {st : St} : om Try.prog cx lo c3_r10 st = reg st.marks (R2 Try.prog lo o3_10 st.env st.H) := res_run (by kernel_rfl)
noncomputable def c3_b0 : Code := (.seq (.seq c3_r9 (.cond (.tmp 78) .skip (.exit 0))) (.seq (.block 1 (.seq (.seq c3_r11 (.block 2 c3_l1)) c3_r15)) c3_r10))
noncomputable def c3_l0 : Code := .loop c3_b0
noncomputable def c3_r16 : Code := regOf Try.f3 16
noncomputable def o3_16 : List O := [⟨some 16, none, true, .mv (.v (.int .i64 0))⟩]
theorem g3_16 {cx : Ctx} {lo : Nat} {st : St} : om Try.prog cx lo c3_r16 st = reg st.marks (R2 Try.prog lo o3_16 st.env st.H) := res_run (by kernel_rfl)
noncomputable def c3_r17 : Code := regOf Try.f3 17
noncomputable def o3_17 : List O := [⟨some 108, none, true, .mv (.s 16)⟩,
  ⟨some 109, none, true, .fa 2 (.s 12)⟩,
  ⟨some 110, none, true, .ld none (.s 109)⟩,
  ⟨some 111, none, false, .lenl (.s 110)⟩,
  ⟨some 112, none, true, .bin .lss 3 (.s 108) (.s 111)⟩]
theorem g3_17 {cx : Ctx} {lo : Nat} {st : St} : om Try.prog cx lo c3_r17 st = reg st.marks (R2 Try.prog lo o3_17 st.env st.H) := res_run (by kernel_rfl)
noncomputable def c3_r19 : Code := regOf Try.f3 19
noncomputable def o3_19 : List O := [⟨some 115, none, true, .fa 2 (.s 12)⟩,
  ⟨some 116, none, true, .ld none (.s 115)⟩,
  ⟨some 117, none, true, .mv (.s 16)⟩,
  ⟨some 118, none, true, .ixs 3 (.s 116) (.s 117)⟩,
  ⟨some 119, none, true, .fa 2 (.s 118)⟩,
  ⟨none, none, false, .st 1 (.s 119) (.v (.int .i64 77))⟩]
theorem g3_19 {cx : Ctx} {lo : Nat} {st : St} : om Try.prog cx lo c3_r19 st = reg st.marks (R2 Try.prog lo o3_19 st.env st.H) := res_run (by kernel_rfl)
noncomputable def c3_r18 : Code := regOf Try.f3 18
noncomputable def o3_18 : List O := [⟨some 113, none, true, .mv (.s 16)⟩,
  ⟨some 114, none, true, .bin .add 3 (.s 113) (.v (.int .i64 1))⟩,
  ⟨some 16, none, true, .mv (.s 114)⟩]
theorem g3_18 {cx : Ctx} {lo : Nat} {st : St} : om Try.prog cx lo c3_r18 st = reg st.marks (R2 Try.prog lo o3_18 st.env st.H) := res_run (by kernel_rfl)
noncomputable def c3_b2 : Code := (.seq (.seq c3_r17 (.cond (.tmp 112) .skip (.exit 4))) (.seq (.block 5 c3_r19) c3_r18))
noncomputable def c3_l2 : Code := .loop c3_b2
noncomputable def c3_r20 : Code := regOf Try.f3 20
noncomputable def o3_20 : List O := [⟨some 17, none, true, .mv (.v (.int .i64 0))⟩]
theorem g3_20 {cx : Ctx} {lo : Nat} {st : St} : om Try.prog cx lo c3_r20 st = reg st.marks (R2 Try.prog lo o3_20 st.env st.H) := res_run (by kernel_rfl)
noncomputable def c3_r21 : Code := regOf Try.f3 21
noncomputable def o3_21 : List O := [⟨some 120, none, true, .mv (.s 17)⟩,
  ⟨some 121, none, true, .fa 3 (.s 12)⟩,
  ⟨some 122, none, true, .ld none (.s 121)⟩,
  ⟨some 123, none, false, .lenl (.s 122)⟩,
  ⟨some 124, none, true, .bin .lss 3 (.s 120) (.s 123)⟩]
theorem g3_21 {cx : Ctx} {lo : Nat} {st : St} : om Try.prog cx lo c3_r21 st = reg st.marks (R2 Try.prog lo o3_21 st.env st.H) := res_run (by kernel_rfl)
noncomputable def c3_r23 : Code := regOf Try.f3 23
noncomputable def o3_23 : List O := [⟨some 127, none, true, .fa 3 (.s 12)⟩,
  ⟨some 128, none, true, .ld none (.s 127)⟩,
  ⟨some 129, none, true, .mv (.s 17)⟩,
  ⟨some 130, none, true, .ixs 8 (.s 128) (.s 129)⟩,
  ⟨some 131, none, true, .fa 1 (.s 130)⟩,
  ⟨none, none, false, .st 1 (.s 131) (.v (.int .i64 77))⟩]
theorem g3_23 {cx : Ctx} {lo : Nat} {st : St} : om Try.prog cx lo c3_r23 st = reg st.marks (R2 Try.prog lo o3_23 st.env st.H) := res_run (by kernel_rfl)
noncomputable def c3_r22 : Code := regOf Try.f3 22
noncomputable def o3_22 : List O := [⟨some 125, none, true, .mv (.s 17)⟩,
  ⟨some 126, none, true, .bin .add 3 (.s 125) (.v (.int .i64 1))⟩,
  ⟨some 17, none, true, .mv (.s 126)⟩]
theorem g3_22 {cx : Ctx} {lo : Nat} {st : St} : om Try.prog cx lo c3_r22 st = reg st.marks (R2 Try.prog lo o3_22 st.env st.H) := res_run (by kernel_rfl)
noncomputable def c3_b3 : Code := (.seq (.seq c3_r21 (.cond (.tmp 124) .skip (.exit 6))) (.seq (.block 7 c3_r23) c3_r22))
noncomputable def c3_l3 : Code := .loop c3_b3
noncomputable def c3_r24 : Code := regOf Try.f3 24
noncomputable def o3_24 : List O := [⟨some 132, none, true, .mv (.s 13)⟩,
  ⟨some 133, none, true, .mv (.s 132)⟩,
  ⟨some 134, (some (some 133, true)), true, .ld (some 4) (.s 3)⟩,
  ⟨some 135, (some (some 133, true)), true, .ld (some 4) (.s 7)⟩,
  ⟨some 136, (some (some 133, true)), false, .call 12 [(.s 134), (.s 135)]⟩,
  ⟨some 137, none, true, .pick (.s 133) (.s 136) (.v (.bool false))⟩,
  ⟨some 6, none, true, .mv (.s 137)⟩]
theorem g3_24 {cx : Ctx} {lo : Nat} {st : St} : om Try.prog cx lo c3_r24 st = reg st.marks (R2 Try.prog lo o3_24 st.env st.H) := res_run (by kernel_rfl)
noncomputable def c3 : Code := (.seq c3_r0 (.seq (.seq c3_r1 (.cond (.tmp 28) (.seq c3_r2 .ret) .skip)) (.seq c3_r3 (.seq c3_r4 (.seq c3_r5 (.seq c3_r6 (.seq c3_r7 (.seq (.seq c3_r8 (.block 0 c3_l0)) (.seq (.seq c3_r16 (.block 4 c3_l2)) (.seq (.seq c3_r20 (.block 6 c3_l3)) (.seq c3_r24 .ret)))))))))))
theorem c3_body : Try.f3.body = some c3 := by kernel_rfl
theorem c3_in (x0 x1 x2 : AV) (lo : Nat) (H : Heap) : ∃ e : List AV, e.length = 138 ∧ gd e 0 = x0 ∧ gd e 1 = x1 ∧ gd e 2 = x2 ∧ callA Try.prog (om Try.prog) lo 3 [x0, x1, x2] H = fin Try.prog (AV.rfL [x0, x1, x2]) [.tmp 6] H (om Try.prog ⟨3, none⟩ (if AV.rfL [x0, x1, x2] then H.next else lo) c3 ⟨e, [], H⟩) := by
  obtain ⟨e, h1, h2, h3⟩ := call_in (P := Try.prog) (lo := lo) (f := 3) (args := [x0, x1, x2]) (H := H) Try.func3 c3_body rfl
  exact ⟨e, h1, h2 0 (by simp), h2 1 (by simp), h2 2 (by simp), h3⟩
noncomputable def c4_r0 : Code := regOf Try.f4 0
noncomputable def o4_0 : List O := [⟨some 1, none, true, .box 26 4 (.s 0)⟩,
  ⟨some 2, none, true, .mv (.v (.bool false))⟩]
theorem g4_0 {cx : Ctx} {lo : Nat} {st : St} : om Try.prog cx lo c4_r0 st = reg st.marks (R2 Try.prog lo o4_0 st.env st.H) := res_run (by kernel_rfl)
noncomputable def c4_r1 : Code := regOf Try.f4 1
noncomputable def o4_1 : List O := [⟨some 6, none, true, .fa 0 (.s 1)⟩,
  ⟨some 7, none, true, .ld none (.s 6)⟩,
  ⟨some 8, none, false, .lens (.s 7)⟩,
  ⟨some 9, none, true, .bin .gtr 3 (.s 8) (.v (.int .i64 300))⟩,
  ⟨some 10, none, true, .mv (.s 9)⟩,
  ⟨some 11, (some (some 10, false)), true, .fa 1 (.s 1)⟩,
  ⟨some 12, (some (some 10, false)), true, .ld none (.s 11)⟩,
  ⟨some 13, (some (some 10, false)), false, .lenl (.s 12)⟩,
  ⟨some 14, (some (some 10, false)), true, .bin .gtr 3 (.s 13) (.v (.int .i64 36))⟩,
  ⟨some 15, none, true, .pick (.s 10) (.v (.bool true)) (.s 14)⟩,
  ⟨some 16, none, true, .mv (.s 15)⟩,
  ⟨some 17, (some (some 16, false)), true, .fa 2 (.s 1)⟩,
  ⟨some 18, (some (some 16, false)), true, .ld none (.s 17)⟩,
  ⟨some 19, (some (some 16, false)), false, .lenl (.s 18)⟩,
  ⟨some 20, (some (some 16, false)), true, .bin .gtr 3 (.s 19) (.v (.int .i64 220))⟩,
  ⟨some 21, none, true, .pick (.s 16) (.v (.bool true)) (.s 20)⟩,
  ⟨some 22, none, true, .mv (.s 21)⟩,
  ⟨some 23, (some (some 22, false)), true, .fa 3 (.s 1)⟩,
  ⟨some 24, (some (some 22, false)), true, .ld none (.s 23)⟩,
  ⟨some 25, (some (some 22, false)), false, .lenl (.s 24)⟩,
  ⟨some 26, (some (some 22, false)), true, .bin .gtr 3 (.s 25) (.v (.int .i64 520))⟩,
  ⟨some 27, none, true, .pick (.s 22) (.v (.bool true)) (.s 26)⟩]
theorem g4_1 {cx : Ctx} {lo : Nat} {st : St} : om Try.prog cx lo c4_r1 st = reg st.marks (R2 Try.prog lo o4_1 st.env st.H) := res_run (by kernel_rfl)
noncomputable def c4_r2 : Code := regOf Try.f4 2
noncomputable def o4_2 : List O := [⟨some 2, none, true, .mv (.v (.bool true))⟩]
theorem g4_2 {cx : Ctx} {lo : Nat} {st : St} : om Try.prog cx lo c4_r2 st = reg st.marks (R2 Try.prog lo o4_2 st.env st.H) := res_run (by kernel_rfl)
noncomputable def c4_r3 : Code := regOf Try.f4 3
noncomputable def o4_3 : List O := [⟨some 3, none, true, .mv (.v (.int .i64 0))⟩]
theorem g4_3 {cx : Ctx} {lo : Nat} {st : St} : om Try.prog cx lo c4_r3 st = reg st.marks (R2 Try.prog lo o4_3 st.env st.H) := res_run (by kernel_rfl)
noncomputable def c4_r4 : Code := regOf Try.f4 4
noncomputable def o4_4 : List O := [⟨some 4, none, true, .mv (.v (.int .i64 0))⟩]
theorem g4_4 {cx : Ctx} {lo : Nat} {st : St} : om Try.prog cx lo c4_r4 st = reg st.marks (R2 Try.prog lo o4_4 st.env st.H) := res_run (by kernel_rfl)
noncomputable def c4_r5 : Code := regOf Try.f4 5
noncomputable def o4_5 : List O := [⟨some 28, none, true, .mv (.s 4)⟩,
  ⟨some 29, none, true, .fa 1 (.s 1)⟩,
  ⟨some 30, none, true, .ld none (.s 29)⟩,
  ⟨some 31, none, false, .lenl (.s 30)⟩,
  ⟨some 32, none, true, .bin .lss 3 (.s 28) (.s 31)⟩]
theorem g4_5 {cx : Ctx} {lo : Nat} {st : St} : om Try.prog cx lo c4_r5 st = reg st.marks (R2 Try.prog lo o4_5 st.env st.H) := res_run (by kernel_rfl)
noncomputable def c4_r7 : Code := regOf Try.f4 7
noncomputable def o4_7 : List O := [⟨some 35, none, true, .fa 1 (.s 1)⟩,
  ⟨some 36, none, true, .ld none (.s 35)⟩,
  ⟨some 37, none, true, .mv (.s 4)⟩,
  ⟨some 38, none, true, .ixs 3 (.s 36) (.s 37)⟩,
  ⟨some 39, none, true, .fa 0 (.s 38)⟩,
  ⟨some 40, none, true, .ld none (.s 39)⟩,
  ⟨some 41, none, false, .lens (.s 40)⟩,
  ⟨some 42, none, true, .bin .gtr 3 (.s 41) (.v (.int .i64 300))⟩,
  ⟨some 43, none, true, .mv (.s 42)⟩,
  ⟨some 44, (some (some 43, false)), true, .fa 1 (.s 1)⟩,
  ⟨some 45, (some (some 43, false)), true, .ld none (.s 44)⟩,
  ⟨some 46, (some (some 43, false)), true, .mv (.s 4)⟩,
  ⟨some 47, (some (some 43, false)), true, .ixs 3 (.s 45) (.s 46)⟩,
  ⟨some 48, (some (some 43, false)), true, .fa 2 (.s 47)⟩,
  ⟨some 49, (some (some 43, false)), true, .ld none (.s 48)⟩,
  ⟨some 50, (some (some 43, false)), false, .lenl (.s 49)⟩,
  ⟨some 51, (some (some 43, false)), true, .bin .gtr 3 (.s 50) (.v (.int .i64 40000))⟩,
  ⟨some 52, none, true, .pick (.s 43) (.v (.bool true)) (.s 51)⟩]
theorem g4_7 {cx : Ctx} {lo : Nat} {st : St} : om Try.prog cx lo c4_r7 st = reg st.marks (R2 Try.prog lo o4_7 st.env st.H) := res_run (by kernel_rfl)
noncomputable def c4_r8 : Code := regOf Try.f4 8
noncomputable def o4_8 : List O := [⟨some 2, none, true, .mv (.v (.bool true))⟩]
theorem g4_8 {cx : Ctx} {lo : Nat} {st : St} : om Try.prog cx lo c4_r8 st = reg st.marks (R2 Try.prog lo o4_8 st.env st.H) := res_run (by kernel_rfl)
noncomputable def c4_r9 : Code := regOf Try.f4 9
noncomputable def o4_9 : List O := [⟨some 53, none, true, .mv (.s 3)⟩,
  ⟨some 54, none, true, .fa 1 (.s 1)⟩,
  ⟨some 55, none, true, .ld none (.s 54)⟩,
  ⟨some 56, none, true, .mv (.s 4)⟩,
  ⟨some 57, none, true, .ixs 3 (.s 55) (.s 56)⟩,
  ⟨some 58, none, true, .fa 2 (.s 57)⟩,
  ⟨some 59, none, true, .ld none (.s 58)⟩,
  ⟨some 60, none, false, .lenl (.s 59)⟩,
  ⟨some 61, none, true, .bin .add 3 (.s 53) (.s 60)⟩,
  ⟨some 3, none, true, .mv (.s 61)⟩]
theorem g4_9 {cx : Ctx} {lo : Nat} {st : St} : om Try.prog cx lo c4_r9 st = reg st.marks (R2 Try.prog lo o4_9 st.env st.H) := res_run (by kernel_rfl)
noncomputable def c4_r6 : Code := regOf Try.f4 6
noncomputable def o4_6 : List O := [⟨some 33, none, true, .mv (.s 4)⟩,
  ⟨some 34, none, true, .bin .add 3 (.s 33) (.v (.int .i64 1))⟩,
  ⟨some 4, none, true, .mv (.s 34)⟩]
theorem g4_6 {cx : Ctx} {lo : Nat} {st : St} : om Try.prog cx lo c4_r6 st = reg st.marks (R2 Try.prog lo o4_6 st.env st.H) := res_run (by kernel_rfl)
noncomputable def c4_b0 : Code := (.seq (.seq c4_r5 (.cond (.tmp 32) .skip (.exit 0))) (.seq (.block 1 (.seq (.seq c4_r7 (.cond (.tmp 52) (.seq c4_r8 .ret) .skip)) c4_r9)) c4_r6))
noncomputable def c4_l0 : Code := .loop c4_b0
noncomputable def c4_r10 : Code := regOf Try.f4 10
noncomputable def o4_10 : List O := [⟨some 5, none, true, .mv (.v (.int .i64 0))⟩]
theorem g4_10 {cx : Ctx} {lo : Nat} {st : St} : om Try.prog cx lo c4_r10 st = reg st.marks (R2 Try.prog lo o4_10 st.env st.H) := res_run (by kernel_rfl)
noncomputable def c4_r11 : Code := regOf Try.f4 11
noncomputable def o4_11 : List O := [⟨some 62, none, true, .mv (.s 5)⟩,
  ⟨some 63, none, true, .fa 2 (.s 1)⟩,
  ⟨some 64, none, true, .ld none (.s 63)⟩,
  ⟨some 65, none, false, .lenl (.s 64)⟩,
  ⟨some 66, none, true, .bin .lss 3 (.s 62) (.s 65)⟩]
theorem g4_11 {cx : Ctx} {lo : Nat} {st : St} : om Try.prog cx lo c4_r11 st = reg st.marks (R2 Try.prog lo o4_11 st.env st.H) := res_run (by kernel_rfl)
noncomputable def c4_r13 : Code := regOf Try.f4 13
noncomputable def o4_13 : List O := [⟨some 69, none, true, .fa 2 (.s 1)⟩,
  ⟨some 70, none, true, .ld none (.s 69)⟩,
  ⟨some 71, none, true, .mv (.s 5)⟩,
  ⟨some 72, none, true, .ixs 3 (.s 70) (.s 71)⟩,
  ⟨some 73, none, true, .fa 0 (.s 72)⟩,
  ⟨some 74, none, true, .ld none (.s 73)⟩,
  ⟨some 75, none, false, .lens (.s 74)⟩,
  ⟨some 76, none, true, .bin .gtr 3 (.s 75) (.v (.int .i64 300))⟩]
theorem g4_13 {cx : Ctx} {lo : Nat} {st : St} : om Try.prog cx lo c4_r13 st = reg st.marks (R2 Try.prog lo o4_13 st.env st.H) := res_run (by kernel_rfl)
noncomputable def c4_r14 : Code := regOf Try.f4 14
noncomputable def o4_14 : List O := [⟨some 2, none, true, .mv (.v (.bool true))⟩]
theorem g4_14 {cx : Ctx} {lo : Nat} {st : St} : om Try.prog cx lo c4_r14 st = reg st.marks (R2 Try.prog lo o4_14 st.env st.H) := res_run (by kernel_rfl)
noncomputable def c4_r12 : Code := regOf Try.f4 12
noncomputable def o4_12 : List O := [⟨some 67, none, true, .mv (.s 5)⟩,
  ⟨some 68, none, true, .bin .add 3 (.s 67) (.v (.int .i64 1))⟩,
  ⟨some 5, none, true, .mv (.s 68)⟩]
theorem g4_12 {cx : Ctx} {lo : Nat} {st : St} : om Try.prog cx lo c4_r12 st = reg st.marks (R2 Try.prog lo o4_12 st.env st.H) := res_run (by kernel_rfl)
noncomputable def c4_b1 : Code := (.seq (.seq c4_r11 (.cond (.tmp 66) .skip (.exit 2))) (.seq (.block 3 (.seq c4_r13 (.cond (.tmp 76) (.seq c4_r14 .ret) .skip))) c4_r12))
noncomputable def c4_l1 : Code := .loop c4_b1
noncomputable def c4_r15 : Code := regOf Try.f4 15
noncomputable def o4_15 : List O := [⟨some 77, none, true, .mv (.s 3)⟩,
  ⟨some 78, none, true, .bin .gtr 3 (.s 77) (.v (.int .i64 40000))⟩,
  ⟨some 2, none, true, .mv (.s 78)⟩]
theorem g4_15 {cx : Ctx} {lo : Nat} {st : St} : om Try.prog cx lo c4_r15 st = reg st.marks (R2 Try.prog lo o4_15 st.env st.H) := res_run (by kernel_rfl)
noncomputable def c4 : Code := (.seq c4_r0 (.seq (.seq c4_r1 (.cond (.tmp 27) (.seq c4_r2 .ret) .skip)) (.seq c4_r3 (.seq (.seq c4_r4 (.block 0 c4_l0)) (.seq (.seq c4_r10 (.block 2 c4_l1)) (.seq c4_r15 .ret))))))
theorem c4_body : Try.f4.body = some c4 := by kernel_rfl
theorem c4_in (x0 : AV) (lo : Nat) (H : Heap) : ∃ e : List AV, e.length = 79 ∧ gd e 0 = x0 ∧ callA Try.prog (om Try.prog) lo 4 [x0] H = fin Try.prog (AV.rfL [x0]) [.tmp 2] H (om Try.prog ⟨4, none⟩ (if AV.rfL [x0] then H.next else lo) c4 ⟨e, [], H⟩) := by
  obtain ⟨e, h1, h2, h3⟩ := call_in (P := Try.prog) (lo := lo) (f := 4) (args := [x0]) (H := H) Try.func4 c4_body rfl
  exact ⟨e, h1, h2 0 (by simp), h3⟩
noncomputable def c5_r0 : Code := regOf Try.f5 0
noncomputable def o5_0 : List O := [⟨some 1, none, true, .box 26 4 (.s 0)⟩,
  ⟨some 2, none, true, .new 26 [(.str ByteArray.empty), (.rsl none 0 0 []), (.rsl none 0 0 []), (.rsl none 0 0 [])]⟩]
theorem g5_0 {cx : Ctx} {lo : Nat} {st : St} : om Try.prog cx lo c5_r0 st = reg st.marks (R2 Try.prog lo o5_0 st.env st.H) := res_run (by kernel_rfl)
noncomputable def c5_r1 : Code := regOf Try.f5 1
noncomputable def o5_1a : List O := [⟨some 6, none, true, .fa 0 (.s 1)⟩,
  ⟨some 7, none, true, .ld none (.s 6)⟩,
  ⟨some 8, none, true, .bsl 41 3 [] 0 []⟩,
  ⟨some 9, none, true, .fa 2 (.s 1)⟩,
  ⟨some 10, none, true, .ld none (.s 9)⟩,
  ⟨some 11, none, false, .raw (.call ⟨.builtin .append, #[(.tmp 8), (.tmp 10)], #[23, 23]⟩)⟩,
  ⟨some 12, none, true, .bsl 43 8 [] 0 []⟩,
  ⟨some 13, none, true, .fa 3 (.s 1)⟩,
  ⟨some 14, none, true, .ld none (.s 13)⟩,
  ⟨some 15, none, false, .raw (.call ⟨.builtin .append, #[(.tmp 12), (.tmp 14)], #[24, 24]⟩)⟩,
  ⟨some 16, none, true, .bld [(.str ByteArray.empty), (.rsl none 0 0 []), (.rsl none 0 0 []), (.rsl none 0 0 [])] [(0, 1), (1, 1), (2, 1), (3, 1)] [(0, (.s 7)), (2, (.s 11)), (3, (.s 15))]⟩,
  ⟨some 3, none, true, .new 26 [(.str ByteArray.empty), (.rsl none 0 0 []), (.rsl none 0 0 []), (.rsl none 0 0 [])]⟩]
noncomputable def o5_1b : List O := [⟨none, none, false, .st 4 (.s 3) (.s 16)⟩]
noncomputable def u5_1 : List (O × List Nat × List Nat) := [(⟨some 6, none, true, .fa 0 (.s 1)⟩, [2, 3, 4, 5, 6, 7, 8, 9, 11], []),
  (⟨some 7, none, true, .ld none (.s 6)⟩, [2, 3, 4, 5, 6, 7, 8, 9, 11], [0]),
  (⟨some 8, none, true, .bsl 41 3 [] 0 []⟩, [0, 1, 3, 4, 6, 7, 8, 11], []),
  (⟨some 9, none, true, .fa 2 (.s 1)⟩, [0, 1, 2, 6, 7, 8, 11], []),
  (⟨some 10, none, true, .ld none (.s 9)⟩, [0, 1, 2, 6, 7, 8, 11], [3]),
  (⟨some 11, none, false, .raw (.call ⟨.builtin .append, #[(.tmp 8), (.tmp 10)], #[23, 23]⟩)⟩, [0, 1, 6, 7, 8, 11], [2, 3, 4]),
  (⟨some 12, none, true, .bsl 43 8 [] 0 []⟩, [0, 1, 2, 3, 4, 5, 7, 8, 11], []),
  (⟨some 13, none, true, .fa 3 (.s 1)⟩, [0, 1, 2, 3, 4, 5, 6, 11], []),
  (⟨some 14, none, true, .ld none (.s 13)⟩, [0, 1, 2, 3, 4, 5, 6, 11], [7]),
  (⟨some 15, none, false, .raw (.call ⟨.builtin .append, #[(.tmp 12), (.tmp 14)], #[24, 24]⟩)⟩, [0, 1, 11], [2, 3, 4, 5, 6, 7, 8]),
  (⟨some 16, none, true, .bld [(.str ByteArray.empty), (.rsl none 0 0 []), (.rsl none 0 0 []), (.rsl none 0 0 [])] [(0, 1), (1, 1), (2, 1), (3, 1)] [(0, (.s 7)), (2, (.s 11)), (3, (.s 15))]⟩, [11], [0, 1, 2, 3, 4, 5, 6, 7, 8, 9]),
  (⟨some 3, none, true, .new 26 [(.str ByteArray.empty), (.rsl none 0 0 []), (.rsl none 0 0 []), (.rsl none 0 0 [])]⟩, [0, 1, 2, 3, 4, 5, 6, 7, 8, 9, 10], [])]
theorem g5_1 {rnd : Option Nat} {lo : Nat} {st : St} : om Try.prog ⟨5, rnd⟩ lo c5_r1 st = reg st.marks (stl (L2 Try.prog lo (w5_1 st.env st.H) 0 u5_1 st.env st.H []) (K4 Try.prog lo o5_1b)) := resL_run (by kernel_rfl) rfl
noncomputable def c5_r2 : Code := regOf Try.f5 2
noncomputable def o5_2 : List O := [⟨some 4, none, true, .mv (.v (.int .i64 0))⟩]
theorem g5_2 {cx : Ctx} {lo : Nat} {st : St} : om Try.prog cx lo c5_r2 st = reg st.marks (R2 Try.prog lo o5_2 st.env st.H) := res_run (by kernel_rfl)
noncomputable def c5_r3 : Code := regOf Try.f5 3
noncomputable def o5_3 : List O := [⟨some 17, none, true, .mv (.s 4)⟩,
  ⟨some 18, none, true, .fa 1 (.s 1)⟩,
  ⟨some 19, none, true, .ld none (.s 18)⟩,
  ⟨some 20, none, false, .lenl (.s 19)⟩,
  ⟨some 21, none, true, .bin .lss 3 (.s 17) (.s 20)⟩]
theorem g5_3 {cx : Ctx} {lo : Nat} {st : St} : om Try.prog cx lo c5_r3 st = reg st.marks (R2 Try.prog lo o5_3 st.env st.H) := res_run (by kernel_rfl)
noncomputable def c5_r5 : Code := regOf Try.f5 5
noncomputable def o5_5 : List O := [⟨some 24, none, true, .fa 1 (.s 1)⟩,
  ⟨some 25, none, true, .ld none (.s 24)⟩,
  ⟨some 26, none, true, .mv (.s 4)⟩,
  ⟨some 27, none, true, .ixs 3 (.s 25) (.s 26)⟩,
  ⟨some 28, none, true, .ld (some 3) (.s 27)⟩,
  ⟨some 5, none, true, .new 39 [(.str ByteArray.empty), (.int .i64 0), (.rsl none 0 0 [])]⟩,
  ⟨none, none, false, .st 3 (.s 5) (.s 28)⟩]
theorem g5_5 {cx : Ctx} {lo : Nat} {st : St} : om Try.prog cx lo c5_r5 st = reg st.marks (R2 Try.prog lo o5_5 st.env st.H) := res_run (by kernel_rfl)
noncomputable def c5_r6 : Code := regOf Try.f5 6
noncomputable def o5_6 : List O := [⟨some 29, none, true, .bsl 5 1 [] 0 []⟩,
  ⟨some 30, none, true, .fa 2 (.s 5)⟩,
  ⟨some 31, none, true, .ld none (.s 30)⟩,
  ⟨some 32, none, false, .raw (.call ⟨.builtin .append, #[(.tmp 29), (.tmp 31)], #[37, 37]⟩)⟩,
  ⟨some 33, none, true, .fa 2 (.s 5)⟩,
  ⟨none, none, false, .st 1 (.s 33) (.s 32)⟩]
theorem g5_6 {cx : Ctx} {lo : Nat} {st : St} : om Try.prog cx lo c5_r6 st = reg st.marks (R2 Try.prog lo o5_6 st.env st.H) := res_run (by kernel_rfl)
noncomputable def c5_r7 : Code := regOf Try.f5 7
noncomputable def o5_7 : List O := [⟨some 34, none, true, .fa 1 (.s 3)⟩,
  ⟨some 35, none, true, .ld none (.s 34)⟩,
  ⟨some 36, none, true, .ld (some 3) (.s 5)⟩,
  ⟨some 37, none, true, .bsl 39 3 [(.str ByteArray.empty), (.int .i64 0), (.rsl none 0 0 [])] 1 [(0, (.s 36))]⟩,
  ⟨some 38, none, false, .raw (.call ⟨.builtin .append, #[(.tmp 35), (.tmp 37)], #[22, 22]⟩)⟩,
  ⟨some 39, none, true, .fa 1 (.s 3)⟩,
  ⟨none, none, false, .st 1 (.s 39) (.s 38)⟩]
theorem g5_7 {cx : Ctx} {lo : Nat} {st : St} : om Try.prog cx lo c5_r7 st = reg st.marks (R2 Try.prog lo o5_7 st.env st.H) := res_run (by kernel_rfl)
noncomputable def c5_r4 : Code := regOf Try.f5 4
noncomputable def o5_4 : List O := [⟨some 22, none, true, .mv (.s 4)⟩,
  ⟨some 23, none, true, .bin .add 3 (.s 22) (.v (.int .i64 1))⟩,
  ⟨some 4, none, true, .mv (.s 23)⟩]
theorem g5_4 {cx : Ctx} {lo : Nat} {st : St} : om Try.prog cx lo c5_r4 st = reg st.marks (R2 Try.prog lo o5_4 st.env st.H) := res_run (by kernel_rfl)
noncomputable def c5_b0 : Code := (.seq (.seq c5_r3 (.cond (.tmp 21) .skip (.exit 0))) (.seq (.block 1 (.seq c5_r5 (.seq c5_r6 c5_r7))) c5_r4))
noncomputable def c5_l0 : Code := .loop c5_b0
noncomputable def c5_r8 : Code := regOf Try.f5 8
noncomputable def o5_8 : List O := [⟨some 40, none, true, .ld (some 4) (.s 3)⟩,
  ⟨none, none, false, .st 4 (.s 2) (.s 40)⟩]
theorem g5_8 {cx : Ctx} {lo : Nat} {st : St} : om Try.prog cx lo c5_r8 st = reg st.marks (R2 Try.prog lo o5_8 st.env st.H) := res_run (by kernel_rfl)
noncomputable def c5 : Code := (.seq c5_r0 (.seq c5_r1 (.seq (.seq c5_r2 (.block 0 c5_l0)) (.seq c5_r8 .ret))))
theorem c5_body : Try.f5.body = some c5 := by kernel_rfl
theorem c5_in (x0 : AV) (lo : Nat) (H : Heap) : ∃ e : List AV, e.length = 41 ∧ gd e 0 = x0 ∧ callA Try.prog (om Try.prog) lo 5 [x0] H = fin Try.prog (AV.rfL [x0]) [.cell 2 26] H (om Try.prog ⟨5, none⟩ (if AV.rfL [x0] then H.next else lo) c5 ⟨e, [], H⟩) := by
  obtain ⟨e, h1, h2, h3⟩ := call_in (P := Try.prog) (lo := lo) (f := 5) (args := [x0]) (H := H) Try.func5 c5_body rfl
  exact ⟨e, h1, h2 0 (by simp), h3⟩
noncomputable def c6_r0 : Code := regOf Try.f6 0
noncomputable def o6_0 : List O := [⟨some 2, none, true, .box 26 4 (.s 0)⟩,
  ⟨some 3, none, true, .box 9 1 (.s 1)⟩,
  ⟨some 4, none, true, .mv (.v (.int .i64 0))⟩,
  ⟨some 5, none, true, .mv (.v (.int .i64 0))⟩]
theorem g6_0 {cx : Ctx} {lo : Nat} {st : St} : om Try.prog cx lo c6_r0 st = reg st.marks (R2 Try.prog lo o6_0 st.env st.H) := res_run (by kernel_rfl)
noncomputable def c6_r1 : Code := regOf Try.f6 1
noncomputable def o6_1 : List O := [⟨some 8, none, true, .ld (some 4) (.s 2)⟩,
  ⟨some 9, none, false, .call 9 [(.s 8)]⟩,
  ⟨some 6, none, true, .mv (.s 9)⟩]
theorem g6_1 {cx : Ctx} {lo : Nat} {st : St} : om Try.prog cx lo c6_r1 st = reg st.marks (R2 Try.prog lo o6_1 st.env st.H) := res_run (by kernel_rfl)
noncomputable def c6_r2 : Code := regOf Try.f6 2
noncomputable def o6_2 : List O := [⟨some 10, none, true, .mv (.s 6)⟩,
  ⟨some 11, none, true, .bin .neq 29 (.s 10) (.v (.int .i64 0))⟩]
theorem g6_2 {cx : Ctx} {lo : Nat} {st : St} : om Try.prog cx lo c6_r2 st = reg st.marks (R2 Try.prog lo o6_2 st.env st.H) := res_run (by kernel_rfl)
noncomputable def c6_r3 : Code := regOf Try.f6 3
noncomputable def o6_3 : List O := [⟨some 12, none, true, .mv (.s 6)⟩,
  ⟨some 4, none, true, .mv (.v (.int .i64 0))⟩,
  ⟨some 5, none, true, .mv (.s 12)⟩]
theorem g6_3 {cx : Ctx} {lo : Nat} {st : St} : om Try.prog cx lo c6_r3 st = reg st.marks (R2 Try.prog lo o6_3 st.env st.H) := res_run (by kernel_rfl)
noncomputable def c6_r4 : Code := regOf Try.f6 4
noncomputable def o6_4 : List O := [⟨some 13, none, true, .fa 2 (.s 2)⟩,
  ⟨some 14, none, true, .ld none (.s 13)⟩,
  ⟨some 15, none, true, .mkf 14 [] [(.s 3)]⟩,
  ⟨some 16, none, false, .call 13 [(.s 14), (.s 15)]⟩,
  ⟨some 7, none, true, .mv (.s 16)⟩]
theorem g6_4 {cx : Ctx} {lo : Nat} {st : St} : om Try.prog cx lo c6_r4 st = reg st.marks (R2 Try.prog lo o6_4 st.env st.H) := res_run (by kernel_rfl)
noncomputable def c6_r5 : Code := regOf Try.f6 5
noncomputable def o6_5 : List O := [⟨some 17, none, true, .mv (.s 7)⟩,
  ⟨some 18, none, true, .bin .lss 3 (.s 17) (.v (.int .i64 0))⟩]
theorem g6_5 {cx : Ctx} {lo : Nat} {st : St} : om Try.prog cx lo c6_r5 st = reg st.marks (R2 Try.prog lo o6_5 st.env st.H) := res_run (by kernel_rfl)
noncomputable def c6_r6 : Code := regOf Try.f6 6
noncomputable def o6_6 : List O := [⟨some 4, none, true, .mv (.v (.int .i64 0))⟩,
  ⟨some 5, none, true, .mv (.v (.int .i64 6))⟩]
theorem g6_6 {cx : Ctx} {lo : Nat} {st : St} : om Try.prog cx lo c6_r6 st = reg st.marks (R2 Try.prog lo o6_6 st.env st.H) := res_run (by kernel_rfl)
noncomputable def c6_r7 : Code := regOf Try.f6 7
noncomputable def o6_7 : List O := [⟨some 19, none, true, .mv (.s 7)⟩,
  ⟨some 4, none, true, .mv (.s 19)⟩,
  ⟨some 5, none, true, .mv (.v (.int .i64 0))⟩]
theorem g6_7 {cx : Ctx} {lo : Nat} {st : St} : om Try.prog cx lo c6_r7 st = reg st.marks (R2 Try.prog lo o6_7 st.env st.H) := res_run (by kernel_rfl)
noncomputable def c6 : Code := (.seq c6_r0 (.seq (.seq c6_r1 (.seq c6_r2 (.cond (.tmp 11) (.seq c6_r3 .ret) .skip))) (.seq c6_r4 (.seq (.seq c6_r5 (.cond (.tmp 18) (.seq c6_r6 .ret) .skip)) (.seq c6_r7 .ret)))))
theorem c6_body : Try.f6.body = some c6 := by kernel_rfl
theorem c6_in (x0 x1 : AV) (lo : Nat) (H : Heap) : ∃ e : List AV, e.length = 20 ∧ gd e 0 = x0 ∧ gd e 1 = x1 ∧ callA Try.prog (om Try.prog) lo 6 [x0, x1] H = fin Try.prog (AV.rfL [x0, x1]) [.tmp 4, .tmp 5] H (om Try.prog ⟨6, none⟩ (if AV.rfL [x0, x1] then H.next else lo) c6 ⟨e, [], H⟩) := by
  obtain ⟨e, h1, h2, h3⟩ := call_in (P := Try.prog) (lo := lo) (f := 6) (args := [x0, x1]) (H := H) Try.func6 c6_body rfl
  exact ⟨e, h1, h2 0 (by simp), h2 1 (by simp), h3⟩
noncomputable def c7_r0 : Code := regOf Try.f7 0
noncomputable def o7_0 : List O := [⟨some 2, none, true, .box 26 4 (.s 0)⟩,
  ⟨some 4, none, true, .mv (.v (.int .i64 0))⟩,
  ⟨some 5, none, true, .mv (.v (.int .i64 0))⟩]
theorem g7_0 {cx : Ctx} {lo : Nat} {st : St} : om Try.prog cx lo c7_r0 st = reg st.marks (R2 Try.prog lo o7_0 st.env st.H) := res_run (by kernel_rfl)
noncomputable def c7_r1 : Code := regOf Try.f7 1
noncomputable def o7_1 : List O := [⟨some 7, none, true, .ld (some 4) (.s 2)⟩,
  ⟨some 8, none, false, .call 15 [(.s 7)]⟩,
  ⟨some 9, none, true, .un .not (.s 8)⟩]
theorem g7_1 {cx : Ctx} {lo : Nat} {st : St} : om Try.prog cx lo c7_r1 st = reg st.marks (R2 Try.prog lo o7_1 st.env st.H) := res_run (by kernel_rfl)
noncomputable def c7_r2 : Code := regOf Try.f7 2
noncomputable def o7_2 : List O := [⟨some 4, none, true, .mv (.v (.int .i64 0))⟩,
  ⟨some 5, none, true, .mv (.v (.int .i64 8))⟩]
theorem g7_2 {cx : Ctx} {lo : Nat} {st : St} : om Try.prog cx lo c7_r2 st = reg st.marks (R2 Try.prog lo o7_2 st.env st.H) := res_run (by kernel_rfl)
noncomputable def c7_r3 : Code := regOf Try.f7 3
noncomputable def o7_3 : List O := [⟨some 6, none, true, .mv (.v (.int .i64 0))⟩]
theorem g7_3 {cx : Ctx} {lo : Nat} {st : St} : om Try.prog cx lo c7_r3 st = reg st.marks (R2 Try.prog lo o7_3 st.env st.H) := res_run (by kernel_rfl)
noncomputable def c7_r4 : Code := regOf Try.f7 4
noncomputable def o7_4 : List O := [⟨some 10, none, true, .mv (.s 6)⟩,
  ⟨some 11, none, true, .fa 2 (.s 2)⟩,
  ⟨some 12, none, true, .ld none (.s 11)⟩,
  ⟨some 13, none, false, .lenl (.s 12)⟩,
  ⟨some 14, none, true, .bin .lss 3 (.s 10) (.s 13)⟩]
theorem g7_4 {cx : Ctx} {lo : Nat} {st : St} : om Try.prog cx lo c7_r4 st = reg st.marks (R2 Try.prog lo o7_4 st.env st.H) := res_run (by kernel_rfl)
noncomputable def c7_r6 : Code := regOf Try.f7 6
noncomputable def o7_6 : List O := [⟨some 17, none, true, .fa 2 (.s 2)⟩,
  ⟨some 18, none, true, .ld none (.s 17)⟩,
  ⟨some 19, none, true, .mv (.s 6)⟩,
  ⟨some 20, none, true, .ixs 3 (.s 18) (.s 19)⟩,
  ⟨some 21, none, true, .fa 0 (.s 20)⟩,
  ⟨some 22, none, true, .ld none (.s 21)⟩,
  ⟨some 23, none, true, .mv (.s 1)⟩,
  ⟨some 24, none, true, .bin .eql 9 (.s 22) (.s 23)⟩]
theorem g7_6 {cx : Ctx} {lo : Nat} {st : St} : om Try.prog cx lo c7_r6 st = reg st.marks (R2 Try.prog lo o7_6 st.env st.H) := res_run (by kernel_rfl)
noncomputable def c7_r7 : Code := regOf Try.f7 7
noncomputable def o7_7 : List O := [⟨some 25, none, true, .mv (.s 6)⟩,
  ⟨some 4, none, true, .mv (.s 25)⟩,
  ⟨some 5, none, true, .mv (.v (.int .i64 0))⟩]
theorem g7_7 {cx : Ctx} {lo : Nat} {st : St} : om Try.prog cx lo c7_r7 st = reg st.marks (R2 Try.prog lo o7_7 st.env st.H) := res_run (by kernel_rfl)
noncomputable def c7_r5 : Code := regOf Try.f7 5
noncomputable def o7_5 : List O := [⟨some 15, none, true, .mv (.s 6)⟩,
  ⟨some 16, none, true, .bin .add 3 (.s 15) (.v (.int .i64 1))⟩,
  ⟨some 6, none, true, .mv (.s 16)⟩]
theorem g7_5 {cx : Ctx} {lo : Nat} {st : St} : om Try.prog cx lo c7_r5 st = reg st.marks (R2 Try.prog lo o7_5 st.env st.H) := res_run (by kernel_rfl)
noncomputable def c7_b0 : Code := (.seq (.seq c7_r4 (.cond (.tmp 14) .skip (.exit 0))) (.seq (.block 1 (.seq c7_r6 (.cond (.tmp 24) (.seq c7_r7 .ret) .skip))) c7_r5))
noncomputable def c7_l0 : Code := .loop c7_b0
noncomputable def c7_r8 : Code := regOf Try.f7 8
noncomputable def o7_8 : List O := [⟨some 4, none, true, .mv (.v (.int .i64 0))⟩,
  ⟨some 5, none, true, .mv (.v (.int .i64 6))⟩]
theorem g7_8 {cx : Ctx} {lo : Nat} {st : St} : om Try.prog cx lo c7_r8 st = reg st.marks (R2 Try.prog lo o7_8 st.env st.H) := res_run (by kernel_rfl)
noncomputable def c7 : Code := (.seq c7_r0 (.seq (.seq c7_r1 (.cond (.tmp 9) (.seq c7_r2 .ret) .skip)) (.seq (.seq c7_r3 (.block 0 c7_l0)) (.seq c7_r8 .ret))))
theorem c7_body : Try.f7.body = some c7 := by kernel_rfl
theorem c7_in (x0 x1 : AV) (lo : Nat) (H : Heap) : ∃ e : List AV, e.length = 26 ∧ gd e 0 = x0 ∧ gd e 1 = x1 ∧ callA Try.prog (om Try.prog) lo 7 [x0, x1] H = fin Try.prog (AV.rfL [x0, x1]) [.tmp 4, .tmp 5] H (om Try.prog ⟨7, none⟩ (if AV.rfL [x0, x1] then H.next else lo) c7 ⟨e, [], H⟩) := by
  obtain ⟨e, h1, h2, h3⟩ := call_in (P := Try.prog) (lo := lo) (f := 7) (args := [x0, x1]) (H := H) Try.func7 c7_body rfl
  exact ⟨e, h1, h2 0 (by simp), h2 1 (by simp), h3⟩
noncomputable def c8_r0 : Code := regOf Try.f8 0
noncomputable def o8_0 : List O := [⟨some 1, none, true, .box 26 4 (.s 0)⟩,
  ⟨some 2, none, true, .new 26 [(.str ByteArray.empty), (.rsl none 0 0 []), (.rsl none 0 0 []), (.rsl none 0 0 [])]⟩]
theorem g8_0 {cx : Ctx} {lo : Nat} {st : St} : om Try.prog cx lo c8_r0 st = reg st.marks (R2 Try.prog lo o8_0 st.env st.H) := res_run (by kernel_rfl)
noncomputable def c8_r1 : Code := regOf Try.f8 1
noncomputable def o8_1a : List O := [⟨some 4, none, true, .fa 1 (.s 1)⟩,
  ⟨some 5, none, true, .ld none (.s 4)⟩,
  ⟨some 6, none, false, .call 16 [(.s 5)]⟩,
  ⟨some 7, none, true, .fa 2 (.s 1)⟩,
  ⟨some 8, none, true, .ld none (.s 7)⟩,
  ⟨some 9, none, false, .call 17 [(.s 8)]⟩,
  ⟨some 10, none, true, .fa 3 (.s 1)⟩,
  ⟨some 11, none, true, .ld none (.s 10)⟩,
  ⟨some 12, none, false, .call 18 [(.s 11)]⟩,
  ⟨some 13, none, true, .fa 1 (.s 1)⟩]
noncomputable def o8_1b : List O := [⟨none, none, false, .st 1 (.s 13) (.s 6)⟩,
  ⟨some 14, none, true, .fa 2 (.s 1)⟩,
  ⟨none, none, false, .st 1 (.s 14) (.s 9)⟩,
  ⟨some 15, none, true, .fa 3 (.s 1)⟩,
  ⟨none, none, false, .st 1 (.s 15) (.s 12)⟩]
noncomputable def u8_1 : List (O × List Nat × List Nat) := [(⟨some 4, none, true, .fa 1 (.s 1)⟩, [3, 4, 6, 7], []),
  (⟨some 5, none, true, .ld none (.s 4)⟩, [3, 4, 6, 7], [0]),
  (⟨some 6, none, false, .call 16 [(.s 5)]⟩, [3, 4, 6, 7], [0, 1]),
  (⟨some 7, none, true, .fa 2 (.s 1)⟩, [0, 1, 2, 6, 7], []),
  (⟨some 8, none, true, .ld none (.s 7)⟩, [0, 1, 2, 6, 7], [3]),
  (⟨some 9, none, false, .call 17 [(.s 8)]⟩, [6, 7, 9], [0, 1, 2, 3, 4]),
  (⟨some 10, none, true, .fa 3 (.s 1)⟩, [0, 1, 2, 3, 4, 5], []),
  (⟨some 11, none, true, .ld none (.s 10)⟩, [0, 1, 2, 3, 4, 5], [6]),
  (⟨some 12, none, false, .call 18 [(.s 11)]⟩, [9], [0, 1, 2, 3, 4, 5, 6, 7]),
  (⟨some 13, none, true, .fa 1 (.s 1)⟩, [5, 8], [0, 1, 2, 3, 4, 6, 7])]
theorem g8_1 {rnd : Option Nat} {lo : Nat} {st : St} : om Try.prog ⟨8, rnd⟩ lo c8_r1 st = reg st.marks (stl (L2 Try.prog lo (w8_1 st.env st.H) 0 u8_1 st.env st.H []) (K4 Try.prog lo o8_1b)) := resL_run (by kernel_rfl) rfl
noncomputable def c8_r2 : Code := regOf Try.f8 2
noncomputable def o8_2 : List O := [⟨some 16, none, true, .fa 1 (.s 1)⟩,
  ⟨some 17, none, true, .ld none (.s 16)⟩,
  ⟨some 18, none, false, .lenl (.s 17)⟩,
  ⟨some 19, none, true, .mv (.v (.int .i64 0))⟩]
theorem g8_2 {cx : Ctx} {lo : Nat} {st : St} : om Try.prog cx lo c8_r2 st = reg st.marks (R2 Try.prog lo o8_2 st.env st.H) := res_run (by kernel_rfl)
noncomputable def c8_r3 : Code := regOf Try.f8 3
noncomputable def o8_3 : List O := [⟨some 20, none, true, .bin .lss 3 (.s 19) (.s 18)⟩]
theorem g8_3 {cx : Ctx} {lo : Nat} {st : St} : om Try.prog cx lo c8_r3 st = reg st.marks (R2 Try.prog lo o8_3 st.env st.H) := res_run (by kernel_rfl)
noncomputable def c8_r4 : Code := regOf Try.f8 4
noncomputable def o8_4 : List O := [⟨some 21, none, true, .mv (.s 19)⟩,
  ⟨some 3, none, true, .mv (.s 21)⟩]
theorem g8_4 {cx : Ctx} {lo : Nat} {st : St} : om Try.prog cx lo c8_r4 st = reg st.marks (R2 Try.prog lo o8_4 st.env st.H) := res_run (by kernel_rfl)
noncomputable def c8_r5 : Code := regOf Try.f8 5
noncomputable def o8_5a : List O := [⟨some 22, none, true, .fa 1 (.s 1)⟩,
  ⟨some 23, none, true, .ld none (.s 22)⟩,
  ⟨some 24, none, true, .mv (.s 3)⟩,
  ⟨some 25, none, true, .fa 1 (.s 1)⟩,
  ⟨some 26, none, true, .ld none (.s 25)⟩,
  ⟨some 27, none, true, .mv (.s 3)⟩,
  ⟨some 28, none, true, .ixs 3 (.s 26) (.s 27)⟩,
  ⟨some 29, none, true, .fa 2 (.s 28)⟩,
  ⟨some 30, none, true, .ld none (.s 29)⟩,
  ⟨some 31, none, false, .call 19 [(.s 30)]⟩]
noncomputable def o8_5b : List O := [⟨some 32, none, true, .ixs 3 (.s 23) (.s 24)⟩,
  ⟨some 33, none, true, .fa 2 (.s 32)⟩,
  ⟨none, none, false, .st 1 (.s 33) (.s 31)⟩]
noncomputable def u8_5 : List (O × List Nat × List Nat) := [(⟨some 22, none, true, .fa 1 (.s 1)⟩, [2, 3, 4, 5, 6, 7, 8, 9], []),
  (⟨some 23, none, true, .ld none (.s 22)⟩, [2, 3, 4, 5, 6, 7, 8, 9], [0]),
  (⟨some 24, none, true, .mv (.s 3)⟩, [0, 1, 3, 4, 5, 6, 7, 8, 9], []),
  (⟨some 25, none, true, .fa 1 (.s 1)⟩, [0, 1, 2, 5], []),
  (⟨some 26, none, true, .ld none (.s 25)⟩, [0, 1, 2, 5], [3]),
  (⟨some 27, none, true, .mv (.s 3)⟩, [0, 1, 2, 3, 4], []),
  (⟨some 28, none, true, .ixs 3 (.s 26) (.s 27)⟩, [0, 1, 2], [3, 4, 5]),
  (⟨some 29, none, true, .fa 2 (.s 28)⟩, [0, 1, 2], [3, 4, 5, 6]),
  (⟨some 30, none, true, .ld none (.s 29)⟩, [0, 1, 2], [3, 4, 5, 6, 7]),
  (⟨some 31, none, false, .call 19 [(.s 30)]⟩, [0, 1, 2], [3, 4, 5, 6, 7, 8])]
theorem g8_5 {rnd : Option Nat} {lo : Nat} {st : St} : om Try.prog ⟨8, rnd⟩ lo c8_r5 st = reg st.marks (stl (L2 Try.prog lo (w8_5 st.env st.H) 0 u8_5 st.env st.H []) (K4 Try.prog lo o8_5b)) := resL_run (by kernel_rfl) rfl
noncomputable def c8_r6 : Code := regOf Try.f8 6
noncomputable def o8_6 : List O := [⟨some 34, none, true, .bin .add 3 (.s 19) (.v (.int .i64 1))⟩,
  ⟨some 19, none, true, .mv (.s 34)⟩]
theorem g8_6 {cx : Ctx} {lo : Nat} {st : St} : om Try.prog cx lo c8_r6 st = reg st.marks (R2 Try.prog lo o8_6 st.env st.H) := res_run (by kernel_rfl)
noncomputable def c8_b0 : Code := (.seq c8_r3 (.seq (.cond (.tmp 20) .skip (.exit 0)) (.seq (.block 1 (.seq c8_r4 c8_r5)) c8_r6)))
noncomputable def c8_l0 : Code := .loop c8_b0
noncomputable def c8_r7 : Code := regOf Try.f8 7
noncomputable def o8_7 : List O := [⟨some 35, none, true, .ld (some 4) (.s 1)⟩,
  ⟨none, none, false, .st 4 (.s 2) (.s 35)⟩]
theorem g8_7 {cx : Ctx} {lo : Nat} {st : St} : om Try.prog cx lo c8_r7 st = reg st.marks (R2 Try.prog lo o8_7 st.env st.H) := res_run (by kernel_rfl)
noncomputable def c8 : Code := (.seq c8_r0 (.seq c8_r1 (.seq (.seq c8_r2 (.block 0 c8_l0)) (.seq c8_r7 .ret))))
theorem c8_body : Try.f8.body = some c8 := by kernel_rfl
theorem c8_in (x0 : AV) (lo : Nat) (H : Heap) : ∃ e : List AV, e.length = 36 ∧ gd e 0 = x0 ∧ callA Try.prog (om Try.prog) lo 8 [x0] H = fin Try.prog (AV.rfL [x0]) [.cell 2 26] H (om Try.prog ⟨8, none⟩ (if AV.rfL [x0] then H.next else lo) c8 ⟨e, [], H⟩) := by
  obtain ⟨e, h1, h2, h3⟩ := call_in (P := Try.prog) (lo := lo) (f := 8) (args := [x0]) (H := H) Try.func8 c8_body rfl
  exact ⟨e, h1, h2 0 (by simp), h3⟩
noncomputable def c9_r0 : Code := regOf Try.f9 0
noncomputable def o9_0 : List O := [⟨some 1, none, true, .box 26 4 (.s 0)⟩,
  ⟨some 2, none, true, .mv (.v (.int .i64 0))⟩]
theorem g9_0 {cx : Ctx} {lo : Nat} {st : St} : om Try.prog cx lo c9_r0 st = reg st.marks (R2 Try.prog lo o9_0 st.env st.H) := res_run (by kernel_rfl)
noncomputable def c9_r1 : Code := regOf Try.f9 1
noncomputable def o9_1 : List O := [⟨some 11, none, true, .fa 0 (.s 1)⟩,
  ⟨some 12, none, true, .ld none (.s 11)⟩,
  ⟨some 13, none, false, .call 20 [(.s 12)]⟩,
  ⟨some 14, none, true, .mv (.s 13)⟩,
  ⟨some 15, (some (some 14, true)), true, .fa 1 (.s 1)⟩,
  ⟨some 16, (some (some 14, true)), true, .ld none (.s 15)⟩,
  ⟨some 17, (some (some 14, true)), false, .lenl (.s 16)⟩,
  ⟨some 18, (some (some 14, true)), true, .bin .leq 3 (.s 17) (.v (.int .i64 16))⟩,
  ⟨some 19, none, true, .pick (.s 14) (.s 18) (.v (.bool false))⟩,
  ⟨some 20, none, true, .mv (.s 19)⟩,
  ⟨some 21, (some (some 20, true)), true, .fa 2 (.s 1)⟩,
  ⟨some 22, (some (some 20, true)), true, .ld none (.s 21)⟩,
  ⟨some 23, (some (some 20, true)), false, .lenl (.s 22)⟩,
  ⟨some 24, (some (some 20, true)), true, .bin .leq 3 (.s 23) (.v (.int .i64 200))⟩,
  ⟨some 25, none, true, .pick (.s 20) (.s 24) (.v (.bool false))⟩,
  ⟨some 26, none, true, .mv (.s 25)⟩,
  ⟨some 27, (some (some 26, true)), true, .fa 3 (.s 1)⟩,
  ⟨some 28, (some (some 26, true)), true, .ld none (.s 27)⟩,
  ⟨some 29, (some (some 26, true)), false, .lenl (.s 28)⟩,
  ⟨some 30, (some (some 26, true)), true, .bin .leq 3 (.s 29) (.v (.int .i64 500))⟩,
  ⟨some 31, none, true, .pick (.s 26) (.s 30) (.v (.bool false))⟩,
  ⟨some 3, none, true, .mv (.s 31)⟩]
theorem g9_1 {cx : Ctx} {lo : Nat} {st : St} : om Try.prog cx lo c9_r1 st = reg st.marks (R2 Try.prog lo o9_1 st.env st.H) := res_run (by kernel_rfl)
noncomputable def c9_r2 : Code := regOf Try.f9 2
noncomputable def o9_2 : List O := [⟨some 32, none, true, .mv (.s 3)⟩,
  ⟨some 33, none, true, .mv (.s 32)⟩,
  ⟨some 34, (some (some 33, true)), true, .fa 1 (.s 1)⟩,
  ⟨some 35, (some (some 33, true)), true, .ld none (.s 34)⟩,
  ⟨some 36, (some (some 33, true)), false, .call 21 [(.s 35), (.v (.func 22 [] []))]⟩,
  ⟨some 37, none, true, .pick (.s 33) (.s 36) (.v (.bool false))⟩,
  ⟨some 38, none, true, .mv (.s 37)⟩,
  ⟨some 39, (some (some 38, true)), true, .fa 2 (.s 1)⟩,
  ⟨some 40, (some (some 38, true)), true, .ld none (.s 39)⟩,
  ⟨some 41, (some (some 38, true)), false, .call 23 [(.s 40), (.v (.func 24 [] []))]⟩,
  ⟨some 42, none, true, .pick (.s 38) (.s 41) (.v (.bool false))⟩,
  ⟨some 3, none, true, .mv (.s 42)⟩]
theorem g9_2 {cx : Ctx} {lo : Nat} {st : St} : om Try.prog cx lo c9_r2 st = reg st.marks (R2 Try.prog lo o9_2 st.env st.H) := res_run (by kernel_rfl)
noncomputable def c9_r3 : Code := regOf Try.f9 3
noncomputable def o9_3 : List O := [⟨some 43, none, true, .mv (.s 3)⟩,
  ⟨some 44, none, true, .un .not (.s 43)⟩]
theorem g9_3 {cx : Ctx} {lo : Nat} {st : St} : om Try.prog cx lo c9_r3 st = reg st.marks (R2 Try.prog lo o9_3 st.env st.H) := res_run (by kernel_rfl)
noncomputable def c9_r4 : Code := regOf Try.f9 4
noncomputable def o9_4 : List O := [⟨some 2, none, true, .mv (.v (.int .i64 8))⟩]
theorem g9_4 {cx : Ctx} {lo : Nat} {st : St} : om Try.prog cx lo c9_r4 st = reg st.marks (R2 Try.prog lo o9_4 st.env st.H) := res_run (by kernel_rfl)
noncomputable def c9_r5 : Code := regOf Try.f9 5
noncomputable def o9_5 : List O := [⟨some 45, none, true, .fa 1 (.s 1)⟩,
  ⟨some 46, none, true, .ld none (.s 45)⟩,
  ⟨some 47, none, false, .lenl (.s 46)⟩,
  ⟨some 48, none, true, .mv (.v (.int .i64 0))⟩]
theorem g9_5 {cx : Ctx} {lo : Nat} {st : St} : om Try.prog cx lo c9_r5 st = reg st.marks (R2 Try.prog lo o9_5 st.env st.H) := res_run (by kernel_rfl)
noncomputable def c9_r6 : Code := regOf Try.f9 6
noncomputable def o9_6 : List O := [⟨some 49, none, true, .bin .lss 3 (.s 48) (.s 47)⟩]
theorem g9_6 {cx : Ctx} {lo : Nat} {st : St} : om Try.prog cx lo c9_r6 st = reg st.marks (R2 Try.prog lo o9_6 st.env st.H) := res_run (by kernel_rfl)
noncomputable def c9_r7 : Code := regOf Try.f9 7
noncomputable def o9_7 : List O := [⟨some 50, none, true, .ixs 3 (.s 46) (.s 48)⟩,
  ⟨some 51, none, true, .ld (some 3) (.s 50)⟩,
  ⟨some 5, none, true, .new 39 [(.str ByteArray.empty), (.int .i64 0), (.rsl none 0 0 [])]⟩,
  ⟨none, none, false, .st 3 (.s 5) (.s 51)⟩]
theorem g9_7 {cx : Ctx} {lo : Nat} {st : St} : om Try.prog cx lo c9_r7 st = reg st.marks (R2 Try.prog lo o9_7 st.env st.H) := res_run (by kernel_rfl)
noncomputable def c9_r8 : Code := regOf Try.f9 8
noncomputable def o9_8 : List O := [⟨some 52, none, true, .mv (.s 3)⟩,
  ⟨some 53, none, true, .mv (.s 52)⟩,
  ⟨some 54, (some (some 53, true)), true, .fa 1 (.s 5)⟩,
  ⟨some 55, (some (some 53, true)), true, .ld none (.s 54)⟩,
  ⟨some 56, (some (some 53, true)), false, .call 25 [(.s 55), (.v (.int .i64 0)), (.v (.int .i64 12))]⟩,
  ⟨some 57, none, true, .pick (.s 53) (.s 56) (.v (.bool false))⟩,
  ⟨some 58, none, true, .mv (.s 57)⟩,
  ⟨some 59, (some (some 58, true)), true, .fa 2 (.s 5)⟩,
  ⟨some 60, (some (some 58, true)), true, .ld none (.s 59)⟩,
  ⟨some 61, (some (some 58, true)), false, .lenl (.s 60)⟩,
  ⟨some 62, (some (some 58, true)), true, .bin .leq 3 (.s 61) (.v (.int .i64 16384))⟩,
  ⟨some 63, none, true, .pick (.s 58) (.s 62) (.v (.bool false))⟩,
  ⟨some 3, none, true, .mv (.s 63)⟩]
theorem g9_8 {cx : Ctx} {lo : Nat} {st : St} : om Try.prog cx lo c9_r8 st = reg st.marks (R2 Try.prog lo o9_8 st.env st.H) := res_run (by kernel_rfl)
noncomputable def c9_r9 : Code := regOf Try.f9 9
noncomputable def o9_9 : List O := [⟨some 64, none, true, .bin .add 3 (.s 48) (.v (.int .i64 1))⟩,
  ⟨some 48, none, true, .mv (.s 64)⟩]
theorem g9_9 {cx : Ctx} {lo : Nat} {st : St} : om Try.prog cx lo c9_r9 st = reg st.marks (R2 Try.prog lo o9_9 st.env st.H) := res_run (by kernel_rfl)
noncomputable def c9_b0 : Code := (.seq c9_r6 (.seq (.cond (.tmp 49) .skip (.exit 0)) (.seq (.block 1 (.seq c9_r7 c9_r8)) c9_r9)))
noncomputable def c9_l0 : Code := .loop c9_b0
noncomputable def c9_r10 : Code := regOf Try.f9 10
noncomputable def o9_10 : List O := [⟨some 65, none, true, .fa 2 (.s 1)⟩,
  ⟨some 66, none, true, .ld none (.s 65)⟩,
  ⟨some 67, none, false, .lenl (.s 66)⟩,
  ⟨some 68, none, true, .mv (.v (.int .i64 0))⟩]
theorem g9_10 {cx : Ctx} {lo : Nat} {st : St} : om Try.prog cx lo c9_r10 st = reg st.marks (R2 Try.prog lo o9_10 st.env st.H) := res_run (by kernel_rfl)
noncomputable def c9_r11 : Code := regOf Try.f9 11
noncomputable def o9_11 : List O := [⟨some 69, none, true, .bin .lss 3 (.s 68) (.s 67)⟩]
theorem g9_11 {cx : Ctx} {lo : Nat} {st : St} : om Try.prog cx lo c9_r11 st = reg st.marks (R2 Try.prog lo o9_11 st.env st.H) := res_run (by kernel_rfl)
noncomputable def c9_r12 : Code := regOf Try.f9 12
noncomputable def o9_12 : List O := [⟨some 70, none, true, .ixs 3 (.s 66) (.s 68)⟩,
  ⟨some 71, none, true, .ld (some 3) (.s 70)⟩,
  ⟨some 7, none, true, .new 41 [(.str ByteArray.empty), (.int .i64 0), (.int .i64 0)]⟩,
  ⟨none, none, false, .st 3 (.s 7) (.s 71)⟩]
theorem g9_12 {cx : Ctx} {lo : Nat} {st : St} : om Try.prog cx lo c9_r12 st = reg st.marks (R2 Try.prog lo o9_12 st.env st.H) := res_run (by kernel_rfl)
noncomputable def c9_r13 : Code := regOf Try.f9 13
noncomputable def o9_13a : List O := [⟨some 72, none, true, .mv (.s 3)⟩,
  ⟨some 73, none, true, .mv (.s 72)⟩,
  ⟨some 74, (some (some 73, true)), true, .fa 1 (.s 7)⟩,
  ⟨some 75, (some (some 73, true)), true, .ld none (.s 74)⟩,
  ⟨some 76, (some (some 73, true)), true, .bin .eql 3 (.s 75) (.v (.int .i64 (-1)))⟩,
  ⟨some 77, (some (some 73, true)), true, .mv (.s 76)⟩,
  ⟨some 78, (some (some 77, true)), true, .fa 2 (.s 7)⟩,
  ⟨some 79, (some (some 77, true)), true, .ld none (.s 78)⟩,
  ⟨some 80, (some (some 77, true)), true, .bin .eql 3 (.s 79) (.v (.int .i64 0))⟩,
  ⟨some 81, (some (some 73, true)), true, .pick (.s 77) (.s 80) (.v (.bool false))⟩,
  ⟨some 82, (some (some 73, true)), true, .mv (.s 81)⟩,
  ⟨some 83, (some (some 82, false)), true, .fa 2 (.s 7)⟩,
  ⟨some 84, (some (some 82, false)), true, .ld none (.s 83)⟩,
  ⟨some 85, (some (some 82, false)), true, .ld (some 4) (.s 1)⟩,
  ⟨some 86, (some (some 82, false)), true, .fa 1 (.s 7)⟩,
  ⟨some 87, (some (some 82, false)), true, .ld none (.s 86)⟩,
  ⟨some 88, (some (some 82, false)), false, .call 26 [(.s 85), (.s 87)]⟩]
noncomputable def o9_13b : List O := [⟨some 89, (some (some 82, false)), false, .call 25 [(.s 84), (.v (.int .i64 0)), (.s 88)]⟩,
  ⟨some 90, (some (some 73, true)), true, .pick (.s 82) (.v (.bool true)) (.s 89)⟩,
  ⟨some 91, none, true, .pick (.s 73) (.s 90) (.v (.bool false))⟩,
  ⟨some 3, none, true, .mv (.s 91)⟩]
theorem g9_13 {rnd : Option Nat} {lo : Nat} {st : St} : om Try.prog ⟨9, rnd⟩ lo c9_r13 st = reg st.marks (dre (stl (S2 Try.prog o9_13a st.env st.H) (K4 Try.prog lo o9_13b)) (Fb Try.prog lo c9_r13 st.env st.H)) := resD_run (by kernel_rfl) rfl
noncomputable def c9_r14 : Code := regOf Try.f9 14
noncomputable def o9_14 : List O := [⟨some 92, none, true, .bin .add 3 (.s 68) (.v (.int .i64 1))⟩,
  ⟨some 68, none, true, .mv (.s 92)⟩]
theorem g9_14 {cx : Ctx} {lo : Nat} {st : St} : om Try.prog cx lo c9_r14 st = reg st.marks (R2 Try.prog lo o9_14 st.env st.H) := res_run (by kernel_rfl)
noncomputable def c9_b1 : Code := (.seq c9_r11 (.seq (.cond (.tmp 69) .skip (.exit 2)) (.seq (.block 3 (.seq c9_r12 c9_r13)) c9_r14)))
noncomputable def c9_l1 : Code := .loop c9_b1
noncomputable def c9_r15 : Code := regOf Try.f9 15
noncomputable def o9_15 : List O := [⟨some 93, none, true, .fa 3 (.s 1)⟩,
  ⟨some 94, none, true, .ld none (.s 93)⟩,
  ⟨some 95, none, false, .lenl (.s 94)⟩,
  ⟨some 96, none, true, .mv (.v (.int .i64 0))⟩]
theorem g9_15 {cx : Ctx} {lo : Nat} {st : St} : om Try.prog cx lo c9_r15 st = reg st.marks (R2 Try.prog lo o9_15 st.env st.H) := res_run (by kernel_rfl)
noncomputable def c9_r16 : Code := regOf Try.f9 16
noncomputable def o9_16 : List O := [⟨some 97, none, true, .bin .lss 3 (.s 96) (.s 95)⟩]
theorem g9_16 {cx : Ctx} {lo : Nat} {st : St} : om Try.prog cx lo c9_r16 st = reg st.marks (R2 Try.prog lo o9_16 st.env st.H) := res_run (by kernel_rfl)
noncomputable def c9_r17 : Code := regOf Try.f9 17
noncomputable def o9_17 : List O := [⟨some 98, none, true, .mv (.s 96)⟩,
  ⟨some 99, none, true, .ixs 8 (.s 94) (.s 96)⟩,
  ⟨some 100, none, true, .ld (some 8) (.s 99)⟩,
  ⟨some 9, none, true, .new 43 [(.int .i64 0), (.int .i64 0), (.int .u8 0), (.int .i64 0), (.int .i64 0), (.int .i64 0), (.int .i64 0), (.int .i64 0)]⟩,
  ⟨some 8, none, true, .mv (.s 98)⟩,
  ⟨none, none, false, .st 8 (.s 9) (.s 100)⟩]
theorem g9_17 {cx : Ctx} {lo : Nat} {st : St} : om Try.prog cx lo c9_r17 st = reg st.marks (R2 Try.prog lo o9_17 st.env st.H) := res_run (by kernel_rfl)
noncomputable def c9_r18 : Code := regOf Try.f9 18
noncomputable def o9_18 : List O := [⟨some 101, none, true, .fa 5 (.s 9)⟩,
  ⟨some 102, none, true, .ld none (.s 101)⟩,
  ⟨some 103, none, false, .call 25 [(.s 102), (.v (.int .i64 0)), (.v (.int .i64 63))]⟩,
  ⟨some 104, none, true, .mv (.s 103)⟩,
  ⟨some 105, (some (some 104, true)), true, .fa 6 (.s 9)⟩,
  ⟨some 106, (some (some 104, true)), true, .ld none (.s 105)⟩,
  ⟨some 107, (some (some 104, true)), false, .call 25 [(.s 106), (.v (.int .i64 0)), (.v (.int .i64 3))]⟩,
  ⟨some 108, none, true, .pick (.s 104) (.s 107) (.v (.bool false))⟩,
  ⟨some 10, none, true, .mv (.s 108)⟩]
theorem g9_18 {cx : Ctx} {lo : Nat} {st : St} : om Try.prog cx lo c9_r18 st = reg st.marks (R2 Try.prog lo o9_18 st.env st.H) := res_run (by kernel_rfl)
noncomputable def c9_r19 : Code := regOf Try.f9 19
noncomputable def o9_19 : List O := [⟨some 109, none, true, .fa 2 (.s 9)⟩,
  ⟨some 110, none, true, .ld none (.s 109)⟩]
theorem g9_19 {cx : Ctx} {lo : Nat} {st : St} : om Try.prog cx lo c9_r19 st = reg st.marks (R2 Try.prog lo o9_19 st.env st.H) := res_run (by kernel_rfl)
noncomputable def c9_r21 : Code := regOf Try.f9 21
noncomputable def o9_21 : List O := [⟨some 112, none, true, .bin .eql 5 (.s 110) (.v (.int .u8 1))⟩,
  ⟨some 111, none, true, .mv (.s 112)⟩]
theorem g9_21 {cx : Ctx} {lo : Nat} {st : St} : om Try.prog cx lo c9_r21 st = reg st.marks (R2 Try.prog lo o9_21 st.env st.H) := res_run (by kernel_rfl)
noncomputable def c9_r22 : Code := regOf Try.f9 22
noncomputable def o9_22 : List O := [⟨some 113, none, true, .mv (.s 3)⟩,
  ⟨some 114, none, true, .mv (.s 113)⟩,
  ⟨some 115, (some (some 114, true)), true, .fa 5 (.s 9)⟩,
  ⟨some 116, (some (some 114, true)), true, .ld none (.s 115)⟩,
  ⟨some 117, (some (some 114, true)), true, .bin .eql 3 (.s 116) (.v (.int .i64 0))⟩,
  ⟨some 118, none, true, .pick (.s 114) (.s 117) (.v (.bool false))⟩,
  ⟨some 119, none, true, .mv (.s 118)⟩,
  ⟨some 120, (some (some 119, true)), true, .fa 6 (.s 9)⟩,
  ⟨some 121, (some (some 119, true)), true, .ld none (.s 120)⟩,
  ⟨some 122, (some (some 119, true)), true, .bin .eql 3 (.s 121) (.v (.int .i64 0))⟩,
  ⟨some 123, none, true, .pick (.s 119) (.s 122) (.v (.bool false))⟩,
  ⟨some 124, none, true, .mv (.s 123)⟩,
  ⟨some 125, (some (some 124, true)), true, .fa 7 (.s 9)⟩,
  ⟨some 126, (some (some 124, true)), true, .ld none (.s 125)⟩,
  ⟨some 127, (some (some 124, true)), true, .bin .eql 3 (.s 126) (.v (.int .i64 0))⟩,
  ⟨some 128, none, true, .pick (.s 124) (.s 127) (.v (.bool false))⟩,
  ⟨some 3, none, true, .mv (.s 128)⟩]
theorem g9_22 {cx : Ctx} {lo : Nat} {st : St} : om Try.prog cx lo c9_r22 st = reg st.marks (R2 Try.prog lo o9_22 st.env st.H) := res_run (by kernel_rfl)
noncomputable def c9_r23 : Code := regOf Try.f9 23
noncomputable def o9_23 : List O := [⟨some 130, none, true, .bin .eql 5 (.s 110) (.v (.int .u8 2))⟩,
  ⟨some 129, none, true, .mv (.s 130)⟩]
theorem g9_23 {cx : Ctx} {lo : Nat} {st : St} : om Try.prog cx lo c9_r23 st = reg st.marks (R2 Try.prog lo o9_23 st.env st.H) := res_run (by kernel_rfl)
noncomputable def c9_r24 : Code := regOf Try.f9 24
noncomputable def o9_24 : List O := [⟨some 131, none, true, .mv (.s 3)⟩,
  ⟨some 132, none, true, .mv (.s 131)⟩,
  ⟨some 133, (some (some 132, true)), true, .mv (.s 10)⟩,
  ⟨some 134, none, true, .pick (.s 132) (.s 133) (.v (.bool false))⟩,
  ⟨some 135, none, true, .mv (.s 134)⟩,
  ⟨some 136, (some (some 135, true)), true, .fa 7 (.s 9)⟩,
  ⟨some 137, (some (some 135, true)), true, .ld none (.s 136)⟩,
  ⟨some 138, (some (some 135, true)), true, .bin .eql 3 (.s 137) (.v (.int .i64 0))⟩,
  ⟨some 139, none, true, .pick (.s 135) (.s 138) (.v (.bool false))⟩,
  ⟨some 3, none, true, .mv (.s 139)⟩]
theorem g9_24 {cx : Ctx} {lo : Nat} {st : St} : om Try.prog cx lo c9_r24 st = reg st.marks (R2 Try.prog lo o9_24 st.env st.H) := res_run (by kernel_rfl)
noncomputable def c9_r25 : Code := regOf Try.f9 25
noncomputable def o9_25 : List O := [⟨some 141, none, true, .bin .eql 5 (.s 110) (.v (.int .u8 3))⟩,
  ⟨some 140, none, true, .mv (.s 141)⟩]
theorem g9_25 {cx : Ctx} {lo : Nat} {st : St} : om Try.prog cx lo c9_r25 st = reg st.marks (R2 Try.prog lo o9_25 st.env st.H) := res_run (by kernel_rfl)
noncomputable def c9_r26 : Code := regOf Try.f9 26
noncomputable def o9_26 : List O := [⟨some 142, none, true, .mv (.s 3)⟩,
  ⟨some 143, none, true, .mv (.s 142)⟩,
  ⟨some 144, (some (some 143, true)), true, .mv (.s 10)⟩,
  ⟨some 145, none, true, .pick (.s 143) (.s 144) (.v (.bool false))⟩,
  ⟨some 146, none, true, .mv (.s 145)⟩,
  ⟨some 147, (some (some 146, true)), true, .fa 7 (.s 9)⟩,
  ⟨some 148, (some (some 146, true)), true, .ld none (.s 147)⟩,
  ⟨some 149, (some (some 146, true)), false, .call 25 [(.s 148), (.v (.int .i64 0)), (.v (.int .i64 31))]⟩,
  ⟨some 150, none, true, .pick (.s 146) (.s 149) (.v (.bool false))⟩,
  ⟨some 3, none, true, .mv (.s 150)⟩]
theorem g9_26 {cx : Ctx} {lo : Nat} {st : St} : om Try.prog cx lo c9_r26 st = reg st.marks (R2 Try.prog lo o9_26 st.env st.H) := res_run (by kernel_rfl)
noncomputable def c9_r20 : Code := regOf Try.f9 20
noncomputable def o9_20 : List O := [⟨some 3, none, true, .mv (.v (.bool false))⟩]
theorem g9_20 {cx : Ctx} {lo : Nat} {st : St} : om Try.prog cx lo c9_r20 st = reg st.marks (R2 Try.prog lo o9_20 st.env st.H) := res_run (by kernel_rfl)
noncomputable def c9_r27 : Code := regOf Try.f9 27
noncomputable def o9_27a : List O := [⟨some 151, none, true, .mv (.s 3)⟩,
  ⟨some 152, none, true, .mv (.s 151)⟩,
  ⟨some 153, (some (some 152, true)), true, .fa 1 (.s 9)⟩,
  ⟨some 154, (some (some 152, true)), true, .ld none (.s 153)⟩,
  ⟨some 155, (some (some 152, true)), true, .ld (some 4) (.s 1)⟩,
  ⟨some 156, (some (some 152, true)), true, .fa 0 (.s 9)⟩,
  ⟨some 157, (some (some 152, true)), true, .ld none (.s 156)⟩,
  ⟨some 158, (some (some 152, true)), false, .call 26 [(.s 155), (.s 157)]⟩,
  ⟨some 159, (some (some 152, true)), false, .call 25 [(.s 154), (.v (.int .i64 0)), (.s 158)]⟩,
  ⟨some 160, none, true, .pick (.s 152) (.s 159) (.v (.bool false))⟩,
  ⟨some 161, none, true, .mv (.s 160)⟩,
  ⟨some 162, (some (some 161, true)), true, .fa 3 (.s 9)⟩,
  ⟨some 163, (some (some 161, true)), true, .ld none (.s 162)⟩,
  ⟨some 164, (some (some 161, true)), true, .fa 2 (.s 1)⟩,
  ⟨some 165, (some (some 161, true)), true, .ld none (.s 164)⟩,
  ⟨some 166, (some (some 161, true)), false, .lenl (.s 165)⟩,
  ⟨some 167, (some (some 161, true)), true, .bin .sub 3 (.s 166) (.v (.int .i64 1))⟩]
noncomputable def o9_27b : List O := [⟨some 168, (some (some 161, true)), false, .call 25 [(.s 163), (.v (.int .i64 0)), (.s 167)]⟩,
  ⟨some 169, none, true, .pick (.s 161) (.s 168) (.v (.bool false))⟩,
  ⟨some 170, none, true, .mv (.s 169)⟩,
  ⟨some 171, (some (some 170, true)), true, .fa 4 (.s 9)⟩,
  ⟨some 172, (some (some 170, true)), true, .ld none (.s 171)⟩,
  ⟨some 173, (some (some 170, true)), false, .call 25 [(.s 172), (.v (.int .i64 (-1048576))), (.v (.int .i64 1048576))]⟩,
  ⟨some 174, none, true, .pick (.s 170) (.s 173) (.v (.bool false))⟩,
  ⟨some 3, none, true, .mv (.s 174)⟩]
theorem g9_27 {rnd : Option Nat} {lo : Nat} {st : St} : om Try.prog ⟨9, rnd⟩ lo c9_r27 st = reg st.marks (dre (stl (S2 Try.prog o9_27a st.env st.H) (K4 Try.prog lo o9_27b)) (Fb Try.prog lo c9_r27 st.env st.H)) := resD_run (by kernel_rfl) rfl
noncomputable def c9_r28 : Code := regOf Try.f9 28
noncomputable def o9_28a : List O := [⟨some 175, none, true, .mv (.s 3)⟩,
  ⟨some 176, none, true, .mv (.s 175)⟩,
  ⟨some 177, (some (some 176, true)), true, .mv (.s 8)⟩,
  ⟨some 178, (some (some 176, true)), true, .bin .eql 3 (.s 177) (.v (.int .i64 0))⟩,
  ⟨some 179, (some (some 176, true)), true, .mv (.s 178)⟩,
  ⟨some 180, (some (some 179, false)), true, .fa 3 (.s 1)⟩,
  ⟨some 181, (some (some 179, false)), true, .ld none (.s 180)⟩,
  ⟨some 182, (some (some 179, false)), true, .mv (.s 8)⟩,
  ⟨some 183, (some (some 179, false)), true, .bin .sub 3 (.s 182) (.v (.int .i64 1))⟩,
  ⟨some 184, (some (some 179, false)), true, .ixs 8 (.s 181) (.s 183)⟩,
  ⟨some 185, (some (some 179, false)), true, .ld (some 8) (.s 184)⟩,
  ⟨some 186, (some (some 179, false)), true, .ld (some 8) (.s 9)⟩]
noncomputable def o9_28b : List O := [⟨some 187, (some (some 179, false)), false, .call 27 [(.s 185), (.s 186)]⟩,
  ⟨some 188, (some (some 179, false)), true, .bin .lss 3 (.s 187) (.v (.int .i64 0))⟩,
  ⟨some 189, (some (some 176, true)), true, .pick (.s 179) (.v (.bool true)) (.s 188)⟩,
  ⟨some 190, none, true, .pick (.s 176) (.s 189) (.v (.bool false))⟩,
  ⟨some 3, none, true, .mv (.s 190)⟩]
theorem g9_28 {rnd : Option Nat} {lo : Nat} {st : St} : om Try.prog ⟨9, rnd⟩ lo c9_r28 st = reg st.marks (dre (stl (S2 Try.prog o9_28a st.env st.H) (K4 Try.prog lo o9_28b)) (Fb Try.prog lo c9_r28 st.env st.H)) := resD_run (by kernel_rfl) rfl
noncomputable def c9_r29 : Code := regOf Try.f9 29
noncomputable def o9_29 : List O := [⟨some 191, none, true, .bin .add 3 (.s 96) (.v (.int .i64 1))⟩,
  ⟨some 96, none, true, .mv (.s 191)⟩]
theorem g9_29 {cx : Ctx} {lo : Nat} {st : St} : om Try.prog cx lo c9_r29 st = reg st.marks (R2 Try.prog lo o9_29 st.env st.H) := res_run (by kernel_rfl)
noncomputable def c9_b2 : Code := (.seq c9_r16 (.seq (.cond (.tmp 97) .skip (.exit 4)) (.seq (.block 5 (.seq c9_r17 (.seq c9_r18 (.seq (.seq c9_r19 (.block 6 (.seq c9_r21 (.cond (.tmp 111) c9_r22 (.seq c9_r23 (.cond (.tmp 129) c9_r24 (.seq c9_r25 (.cond (.tmp 140) c9_r26 c9_r20)))))))) (.seq c9_r27 c9_r28))))) c9_r29)))
noncomputable def c9_l2 : Code := .loop c9_b2
noncomputable def c9_r30 : Code := regOf Try.f9 30
noncomputable def o9_30 : List O := [⟨some 192, none, true, .mv (.s 3)⟩,
  ⟨some 193, none, true, .un .not (.s 192)⟩]
theorem g9_30 {cx : Ctx} {lo : Nat} {st : St} : om Try.prog cx lo c9_r30 st = reg st.marks (R2 Try.prog lo o9_30 st.env st.H) := res_run (by kernel_rfl)
noncomputable def c9_r31 : Code := regOf Try.f9 31
noncomputable def o9_31 : List O := [⟨some 2, none, true, .mv (.v (.int .i64 8))⟩]
theorem g9_31 {cx : Ctx} {lo : Nat} {st : St} : om Try.prog cx lo c9_r31 st = reg st.marks (R2 Try.prog lo o9_31 st.env st.H) := res_run (by kernel_rfl)
noncomputable def c9_r32 : Code := regOf Try.f9 32
noncomputable def o9_32 : List O := [⟨some 2, none, true, .mv (.v (.int .i64 0))⟩]
theorem g9_32 {cx : Ctx} {lo : Nat} {st : St} : om Try.prog cx lo c9_r32 st = reg st.marks (R2 Try.prog lo o9_32 st.env st.H) := res_run (by kernel_rfl)
noncomputable def c9 : Code := (.seq c9_r0 (.seq c9_r1 (.seq c9_r2 (.seq (.seq c9_r3 (.cond (.tmp 44) (.seq c9_r4 .ret) .skip)) (.seq (.seq c9_r5 (.block 0 c9_l0)) (.seq (.seq c9_r10 (.block 2 c9_l1)) (.seq (.seq c9_r15 (.block 4 c9_l2)) (.seq (.seq c9_r30 (.cond (.tmp 193) (.seq c9_r31 .ret) .skip)) (.seq c9_r32 .ret)))))))))
theorem c9_body : Try.f9.body = some c9 := by kernel_rfl
theorem c9_in (x0 : AV) (lo : Nat) (H : Heap) : ∃ e : List AV, e.length = 194 ∧ gd e 0 = x0 ∧ callA Try.prog (om Try.prog) lo 9 [x0] H = fin Try.prog (AV.rfL [x0]) [.tmp 2] H (om Try.prog ⟨9, none⟩ (if AV.rfL [x0] then H.next else lo) c9 ⟨e, [], H⟩) := by
  obtain ⟨e, h1, h2, h3⟩ := call_in (P := Try.prog) (lo := lo) (f := 9) (args := [x0]) (H := H) Try.func9 c9_body rfl
  exact ⟨e, h1, h2 0 (by simp), h3⟩
noncomputable def c10_r0 : Code := regOf Try.f10 0
noncomputable def o10_0 : List O := [⟨some 1, none, true, .box 26 4 (.s 0)⟩,
  ⟨some 2, none, true, .mv (.v (.int .i64 0))⟩]
theorem g10_0 {cx : Ctx} {lo : Nat} {st : St} : om Try.prog cx lo c10_r0 st = reg st.marks (R2 Try.prog lo o10_0 st.env st.H) := res_run (by kernel_rfl)
noncomputable def c10_r1 : Code := regOf Try.f10 1
noncomputable def o10_1 : List O := [⟨some 3, none, true, .ld (some 4) (.s 1)⟩,
  ⟨some 4, none, false, .call 15 [(.s 3)]⟩]
theorem g10_1 {cx : Ctx} {lo : Nat} {st : St} : om Try.prog cx lo c10_r1 st = reg st.marks (R2 Try.prog lo o10_1 st.env st.H) := res_run (by kernel_rfl)
noncomputable def c10_r2 : Code := regOf Try.f10 2
noncomputable def o10_2 : List O := [⟨some 2, none, true, .mv (.v (.int .i64 0))⟩]
theorem g10_2 {cx : Ctx} {lo : Nat} {st : St} : om Try.prog cx lo c10_r2 st = reg st.marks (R2 Try.prog lo o10_2 st.env st.H) := res_run (by kernel_rfl)
noncomputable def c10_r3 : Code := regOf Try.f10 3
noncomputable def o10_3 : List O := [⟨some 2, none, true, .mv (.v (.int .i64 8))⟩]
theorem g10_3 {cx : Ctx} {lo : Nat} {st : St} : om Try.prog cx lo c10_r3 st = reg st.marks (R2 Try.prog lo o10_3 st.env st.H) := res_run (by kernel_rfl)
noncomputable def c10 : Code := (.seq c10_r0 (.seq (.seq c10_r1 (.cond (.tmp 4) (.seq c10_r2 .ret) .skip)) (.seq c10_r3 .ret)))
theorem c10_body : Try.f10.body = some c10 := by kernel_rfl
theorem c10_in (x0 : AV) (lo : Nat) (H : Heap) : ∃ e : List AV, e.length = 5 ∧ gd e 0 = x0 ∧ callA Try.prog (om Try.prog) lo 10 [x0] H = fin Try.prog (AV.rfL [x0]) [.tmp 2] H (om Try.prog ⟨10, none⟩ (if AV.rfL [x0] then H.next else lo) c10 ⟨e, [], H⟩) := by
  obtain ⟨e, h1, h2, h3⟩ := call_in (P := Try.prog) (lo := lo) (f := 10) (args := [x0]) (H := H) Try.func10 c10_body rfl
  exact ⟨e, h1, h2 0 (by simp), h3⟩
noncomputable def c11_r0 : Code := regOf Try.f11 0
noncomputable def o11_0 : List O := [⟨some 2, none, true, .box 26 4 (.s 0)⟩,
  ⟨some 3, none, true, .box 26 4 (.s 1)⟩,
  ⟨some 4, none, true, .mv (.v (.bool false))⟩]
theorem g11_0 {cx : Ctx} {lo : Nat} {st : St} : om Try.prog cx lo c11_r0 st = reg st.marks (R2 Try.prog lo o11_0 st.env st.H) := res_run (by kernel_rfl)
noncomputable def c11_r1 : Code := regOf Try.f11 1
noncomputable def o11_1 : List O := [⟨some 5, none, true, .fa 0 (.s 2)⟩,
  ⟨some 6, none, true, .ld none (.s 5)⟩,
  ⟨some 7, none, true, .fa 0 (.s 3)⟩,
  ⟨some 8, none, true, .ld none (.s 7)⟩,
  ⟨some 9, none, true, .bin .eql 9 (.s 6) (.s 8)⟩,
  ⟨some 10, none, true, .mv (.s 9)⟩,
  ⟨some 11, (some (some 10, true)), true, .fa 2 (.s 2)⟩,
  ⟨some 12, (some (some 10, true)), true, .ld none (.s 11)⟩,
  ⟨some 13, (some (some 10, true)), true, .fa 2 (.s 3)⟩,
  ⟨some 14, (some (some 10, true)), true, .ld none (.s 13)⟩,
  ⟨some 15, (some (some 10, true)), false, .call 28 [(.s 12), (.s 14)]⟩,
  ⟨some 16, none, true, .pick (.s 10) (.s 15) (.v (.bool false))⟩,
  ⟨some 17, none, true, .mv (.s 16)⟩,
  ⟨some 18, (some (some 17, true)), true, .fa 3 (.s 2)⟩,
  ⟨some 19, (some (some 17, true)), true, .ld none (.s 18)⟩,
  ⟨some 20, (some (some 17, true)), true, .fa 3 (.s 3)⟩,
  ⟨some 21, (some (some 17, true)), true, .ld none (.s 20)⟩,
  ⟨some 22, (some (some 17, true)), false, .call 29 [(.s 19), (.s 21)]⟩,
  ⟨some 23, none, true, .pick (.s 17) (.s 22) (.v (.bool false))⟩,
  ⟨some 24, none, true, .mv (.s 23)⟩,
  ⟨some 25, (some (some 24, true)), true, .fa 1 (.s 2)⟩,
  ⟨some 26, (some (some 24, true)), true, .ld none (.s 25)⟩,
  ⟨some 27, (some (some 24, true)), true, .fa 1 (.s 3)⟩,
  ⟨some 28, (some (some 24, true)), true, .ld none (.s 27)⟩,
  ⟨some 29, (some (some 24, true)), false, .call 30 [(.s 26), (.s 28), (.v (.func 31 [] []))]⟩,
  ⟨some 30, none, true, .pick (.s 24) (.s 29) (.v (.bool false))⟩,
  ⟨some 4, none, true, .mv (.s 30)⟩]
theorem g11_1 {cx : Ctx} {lo : Nat} {st : St} : om Try.prog cx lo c11_r1 st = reg st.marks (R2 Try.prog lo o11_1 st.env st.H) := res_run (by kernel_rfl)
noncomputable def c11 : Code := (.seq c11_r0 (.seq c11_r1 .ret))
theorem c11_body : Try.f11.body = some c11 := by kernel_rfl
theorem c11_in (x0 x1 : AV) (lo : Nat) (H : Heap) : ∃ e : List AV, e.length = 31 ∧ gd e 0 = x0 ∧ gd e 1 = x1 ∧ callA Try.prog (om Try.prog) lo 11 [x0, x1] H = fin Try.prog (AV.rfL [x0, x1]) [.tmp 4] H (om Try.prog ⟨11, none⟩ (if AV.rfL [x0, x1] then H.next else lo) c11 ⟨e, [], H⟩) := by
  obtain ⟨e, h1, h2, h3⟩ := call_in (P := Try.prog) (lo := lo) (f := 11) (args := [x0, x1]) (H := H) Try.func11 c11_body rfl
  exact ⟨e, h1, h2 0 (by simp), h2 1 (by simp), h3⟩
noncomputable def c12_r0 : Code := regOf Try.f12 0
noncomputable def o12_0 : List O := [⟨some 2, none, true, .box 26 4 (.s 0)⟩,
  ⟨some 3, none, true, .box 26 4 (.s 1)⟩,
  ⟨some 4, none, true, .mv (.v (.bool false))⟩]
theorem g12_0 {cx : Ctx} {lo : Nat} {st : St} : om Try.prog cx lo c12_r0 st = reg st.marks (R2 Try.prog lo o12_0 st.env st.H) := res_run (by kernel_rfl)
noncomputable def c12_r1 : Code := regOf Try.f12 1
noncomputable def o12_1 : List O := [⟨some 11, none, true, .fa 0 (.s 2)⟩,
  ⟨some 12, none, true, .ld none (.s 11)⟩,
  ⟨some 13, none, true, .fa 0 (.s 3)⟩,
  ⟨some 14, none, true, .ld none (.s 13)⟩,
  ⟨some 15, none, true, .bin .neq 9 (.s 12) (.s 14)⟩,
  ⟨some 16, none, true, .mv (.s 15)⟩,
  ⟨some 17, (some (some 16, false)), true, .fa 1 (.s 2)⟩,
  ⟨some 18, (some (some 16, false)), true, .ld none (.s 17)⟩,
  ⟨some 19, (some (some 16, false)), false, .lenl (.s 18)⟩,
  ⟨some 20, (some (some 16, false)), true, .fa 1 (.s 3)⟩,
  ⟨some 21, (some (some 16, false)), true, .ld none (.s 20)⟩,
  ⟨some 22, (some (some 16, false)), false, .lenl (.s 21)⟩,
  ⟨some 23, (some (some 16, false)), true, .bin .neq 3 (.s 19) (.s 22)⟩,
  ⟨some 24, none, true, .pick (.s 16) (.v (.bool true)) (.s 23)⟩,
  ⟨some 25, none, true, .mv (.s 24)⟩,
  ⟨some 26, (some (some 25, false)), true, .fa 2 (.s 2)⟩,
  ⟨some 27, (some (some 25, false)), true, .ld none (.s 26)⟩,
  ⟨some 28, (some (some 25, false)), false, .lenl (.s 27)⟩,
  ⟨some 29, (some (some 25, false)), true, .fa 2 (.s 3)⟩,
  ⟨some 30, (some (some 25, false)), true, .ld none (.s 29)⟩,
  ⟨some 31, (some (some 25, false)), false, .lenl (.s 30)⟩,
  ⟨some 32, (some (some 25, false)), true, .bin .neq 3 (.s 28) (.s 31)⟩,
  ⟨some 33, none, true, .pick (.s 25) (.v (.bool true)) (.s 32)⟩,
  ⟨some 34, none, true, .mv (.s 33)⟩,
  ⟨some 35, (some (some 34, false)), true, .fa 3 (.s 2)⟩,
  ⟨some 36, (some (some 34, false)), true, .ld none (.s 35)⟩,
  ⟨some 37, (some (some 34, false)), false, .lenl (.s 36)⟩,
  ⟨some 38, (some (some 34, false)), true, .fa 3 (.s 3)⟩,
  ⟨some 39, (some (some 34, false)), true, .ld none (.s 38)⟩,
  ⟨some 40, (some (some 34, false)), false, .lenl (.s 39)⟩,
  ⟨some 41, (some (some 34, false)), true, .bin .neq 3 (.s 37) (.s 40)⟩,
  ⟨some 42, none, true, .pick (.s 34) (.v (.bool true)) (.s 41)⟩]
theorem g12_1 {cx : Ctx} {lo : Nat} {st : St} : om Try.prog cx lo c12_r1 st = reg st.marks (R2 Try.prog lo o12_1 st.env st.H) := res_run (by kernel_rfl)
noncomputable def c12_r2 : Code := regOf Try.f12 2
noncomputable def o12_2 : List O := [⟨some 4, none, true, .mv (.v (.bool false))⟩]
theorem g12_2 {cx : Ctx} {lo : Nat} {st : St} : om Try.prog cx lo c12_r2 st = reg st.marks (R2 Try.prog lo o12_2 st.env st.H) := res_run (by kernel_rfl)
noncomputable def c12_r3 : Code := regOf Try.f12 3
noncomputable def o12_3 : List O := [⟨some 5, none, true, .mv (.v (.int .i64 0))⟩]
theorem g12_3 {cx : Ctx} {lo : Nat} {st : St} : om Try.prog cx lo c12_r3 st = reg st.marks (R2 Try.prog lo o12_3 st.env st.H) := res_run (by kernel_rfl)
noncomputable def c12_r4 : Code := regOf Try.f12 4
noncomputable def o12_4 : List O := [⟨some 43, none, true, .mv (.s 5)⟩,
  ⟨some 44, none, true, .fa 1 (.s 2)⟩,
  ⟨some 45, none, true, .ld none (.s 44)⟩,
  ⟨some 46, none, false, .lenl (.s 45)⟩,
  ⟨some 47, none, true, .bin .lss 3 (.s 43) (.s 46)⟩]
theorem g12_4 {cx : Ctx} {lo : Nat} {st : St} : om Try.prog cx lo c12_r4 st = reg st.marks (R2 Try.prog lo o12_4 st.env st.H) := res_run (by kernel_rfl)
noncomputable def c12_r6 : Code := regOf Try.f12 6
noncomputable def o12_6a : List O := [⟨some 50, none, true, .fa 1 (.s 2)⟩,
  ⟨some 51, none, true, .ld none (.s 50)⟩,
  ⟨some 52, none, true, .mv (.s 5)⟩,
  ⟨some 53, none, true, .ixs 3 (.s 51) (.s 52)⟩,
  ⟨some 54, none, true, .ld (some 3) (.s 53)⟩,
  ⟨some 55, none, true, .fa 1 (.s 3)⟩,
  ⟨some 56, none, true, .ld none (.s 55)⟩,
  ⟨some 57, none, true, .mv (.s 5)⟩,
  ⟨some 58, none, true, .ixs 3 (.s 56) (.s 57)⟩,
  ⟨some 59, none, true, .ld (some 3) (.s 58)⟩,
  ⟨some 6, none, true, .new 39 [(.str ByteArray.empty), (.int .i64 0), (.rsl none 0 0 [])]⟩,
  ⟨some 7, none, true, .new 39 [(.str ByteArray.empty), (.int .i64 0), (.rsl none 0 0 [])]⟩,
  ⟨none, none, false, .st 3 (.s 6) (.s 54)⟩]
noncomputable def o12_6b : List O := [⟨none, none, false, .st 3 (.s 7) (.s 59)⟩]
noncomputable def u12_6 : List (O × List Nat × List Nat) := [(⟨some 50, none, true, .fa 1 (.s 2)⟩, [2, 5, 6, 7, 8, 9, 10, 11], []),
  (⟨some 51, none, true, .ld none (.s 50)⟩, [2, 5, 6, 7, 8, 9, 10, 11], [0]),
  (⟨some 52, none, true, .mv (.s 5)⟩, [0, 1, 5, 6, 7, 8, 9, 10, 11], []),
  (⟨some 53, none, true, .ixs 3 (.s 51) (.s 52)⟩, [5, 6, 7, 8, 9, 10, 11], [0, 1, 2]),
  (⟨some 54, none, true, .ld (some 3) (.s 53)⟩, [5, 6, 7, 8, 9, 10, 11], [0, 1, 2, 3]),
  (⟨some 55, none, true, .fa 1 (.s 3)⟩, [0, 1, 2, 3, 4, 7, 10, 11, 12], []),
  (⟨some 56, none, true, .ld none (.s 55)⟩, [0, 1, 2, 3, 4, 7, 10, 11, 12], [5]),
  (⟨some 57, none, true, .mv (.s 5)⟩, [0, 1, 2, 3, 4, 5, 6, 10, 11, 12], []),
  (⟨some 58, none, true, .ixs 3 (.s 56) (.s 57)⟩, [0, 1, 2, 3, 4, 10, 11, 12], [5, 6, 7]),
  (⟨some 59, none, true, .ld (some 3) (.s 58)⟩, [0, 1, 2, 3, 4, 10, 11, 12], [5, 6, 7, 8]),
  (⟨some 6, none, true, .new 39 [(.str ByteArray.empty), (.int .i64 0), (.rsl none 0 0 [])]⟩, [0, 1, 2, 3, 4, 5, 6, 7, 8, 9, 11], []),
  (⟨some 7, none, true, .new 39 [(.str ByteArray.empty), (.int .i64 0), (.rsl none 0 0 [])]⟩, [0, 1, 2, 3, 4, 5, 6, 7, 8, 9, 10], []),
  (⟨none, none, false, .st 3 (.s 6) (.s 54)⟩, [5, 6, 7, 8, 9], [0, 1, 2, 3, 4, 10, 11])]
theorem g12_6 {rnd : Option Nat} {lo : Nat} {st : St} : om Try.prog ⟨12, rnd⟩ lo c12_r6 st = reg st.marks (stl (L2 Try.prog lo (w12_6 st.env st.H) 0 u12_6 st.env st.H []) (K4 Try.prog lo o12_6b)) := resL_run (by kernel_rfl) rfl
noncomputable def c12_r7 : Code := regOf Try.f12 7
noncomputable def o12_7 : List O := [⟨some 60, none, true, .fa 0 (.s 6)⟩,
  ⟨some 61, none, true, .ld none (.s 60)⟩,
  ⟨some 62, none, true, .fa 0 (.s 7)⟩,
  ⟨some 63, none, true, .ld none (.s 62)⟩,
  ⟨some 64, none, true, .bin .neq 9 (.s 61) (.s 63)⟩,
  ⟨some 65, none, true, .mv (.s 64)⟩,
  ⟨some 66, (some (some 65, false)), true, .fa 1 (.s 6)⟩,
  ⟨some 67, (some (some 65, false)), true, .ld none (.s 66)⟩,
  ⟨some 68, (some (some 65, false)), true, .fa 1 (.s 7)⟩,
  ⟨some 69, (some (some 65, false)), true, .ld none (.s 68)⟩,
  ⟨some 70, (some (some 65, false)), true, .bin .neq 3 (.s 67) (.s 69)⟩,
  ⟨some 71, none, true, .pick (.s 65) (.v (.bool true)) (.s 70)⟩,
  ⟨some 72, none, true, .mv (.s 71)⟩,
  ⟨some 73, (some (some 72, false)), true, .fa 2 (.s 6)⟩,
  ⟨some 74, (some (some 72, false)), true, .ld none (.s 73)⟩,
  ⟨some 75, (some (some 72, false)), false, .lenl (.s 74)⟩,
  ⟨some 76, (some (some 72, false)), true, .fa 2 (.s 7)⟩,
  ⟨some 77, (some (some 72, false)), true, .ld none (.s 76)⟩,
  ⟨some 78, (some (some 72, false)), false, .lenl (.s 77)⟩,
  ⟨some 79, (some (some 72, false)), true, .bin .neq 3 (.s 75) (.s 78)⟩,
  ⟨some 80, none, true, .pick (.s 72) (.v (.bool true)) (.s 79)⟩]
theorem g12_7 {cx : Ctx} {lo : Nat} {st : St} : om Try.prog cx lo c12_r7 st = reg st.marks (R2 Try.prog lo o12_7 st.env st.H) := res_run (by kernel_rfl)
noncomputable def c12_r8 : Code := regOf Try.f12 8
noncomputable def o12_8 : List O := [⟨some 4, none, true, .mv (.v (.bool false))⟩]
theorem g12_8 {cx : Ctx} {lo : Nat} {st : St} : om Try.prog cx lo c12_r8 st = reg st.marks (R2 Try.prog lo o12_8 st.env st.H) := res_run (by kernel_rfl)
noncomputable def c12_r9 : Code := regOf Try.f12 9
noncomputable def o12_9 : List O := [⟨some 8, none, true, .mv (.v (.int .i64 0))⟩]
theorem g12_9 {cx : Ctx} {lo : Nat} {st : St} : om Try.prog cx lo c12_r9 st = reg st.marks (R2 Try.prog lo o12_9 st.env st.H) := res_run (by kernel_rfl)
noncomputable def c12_r10 : Code := regOf Try.f12 10
noncomputable def o12_10 : List O := [⟨some 81, none, true, .mv (.s 8)⟩,
  ⟨some 82, none, true, .fa 2 (.s 6)⟩,
  ⟨some 83, none, true, .ld none (.s 82)⟩,
  ⟨some 84, none, false, .lenl (.s 83)⟩,
  ⟨some 85, none, true, .bin .lss 3 (.s 81) (.s 84)⟩]
theorem g12_10 {cx : Ctx} {lo : Nat} {st : St} : om Try.prog cx lo c12_r10 st = reg st.marks (R2 Try.prog lo o12_10 st.env st.H) := res_run (by kernel_rfl)
noncomputable def c12_r12 : Code := regOf Try.f12 12
noncomputable def o12_12a : List O := [⟨some 88, none, true, .fa 2 (.s 6)⟩,
  ⟨some 89, none, true, .ld none (.s 88)⟩,
  ⟨some 90, none, true, .mv (.s 8)⟩,
  ⟨some 91, none, true, .ixs 1 (.s 89) (.s 90)⟩,
  ⟨some 92, none, true, .ld none (.s 91)⟩,
  ⟨some 93, none, true, .fa 2 (.s 7)⟩,
  ⟨some 94, none, true, .ld none (.s 93)⟩,
  ⟨some 95, none, true, .mv (.s 8)⟩,
  ⟨some 96, none, true, .ixs 1 (.s 94) (.s 95)⟩,
  ⟨some 97, none, true, .ld none (.s 96)⟩]
noncomputable def o12_12b : List O := [⟨some 98, none, true, .bin .neq 5 (.s 92) (.s 97)⟩]
theorem g12_12 {rnd : Option Nat} {lo : Nat} {st : St} : om Try.prog ⟨12, rnd⟩ lo c12_r12 st = reg st.marks (dre (stl (S2 Try.prog o12_12a st.env st.H) (K4 Try.prog lo o12_12b)) (Fb Try.prog lo c12_r12 st.env st.H)) := resD_run (by kernel_rfl) rfl
noncomputable def c12_r13 : Code := regOf Try.f12 13
noncomputable def o12_13 : List O := [⟨some 4, none, true, .mv (.v (.bool false))⟩]
theorem g12_13 {cx : Ctx} {lo : Nat} {st : St} : om Try.prog cx lo c12_r13 st = reg st.marks (R2 Try.prog lo o12_13 st.env st.H) := res_run (by kernel_rfl)
noncomputable def c12_r11 : Code := regOf Try.f12 11
noncomputable def o12_11 : List O := [⟨some 86, none, true, .mv (.s 8)⟩,
  ⟨some 87, none, true, .bin .add 3 (.s 86) (.v (.int .i64 1))⟩,
  ⟨some 8, none, true, .mv (.s 87)⟩]
theorem g12_11 {cx : Ctx} {lo : Nat} {st : St} : om Try.prog cx lo c12_r11 st = reg st.marks (R2 Try.prog lo o12_11 st.env st.H) := res_run (by kernel_rfl)
noncomputable def c12_b1 : Code := (.seq (.seq c12_r10 (.cond (.tmp 85) .skip (.exit 2))) (.seq (.block 3 (.seq c12_r12 (.cond (.tmp 98) (.seq c12_r13 .ret) .skip))) c12_r11))
noncomputable def c12_l1 : Code := .loop c12_b1
noncomputable def c12_r5 : Code := regOf Try.f12 5
noncomputable def o12_5 : List O := [⟨some 48, none, true, .mv (.s 5)⟩,
  ⟨some 49, none, true, .bin .add 3 (.s 48) (.v (.int .i64 1))⟩,
  ⟨some 5, none, true, .mv (.s 49)⟩]
theorem g12_5 {cx : Ctx} {lo : Nat} {st : St} : om Try.prog cx lo c12_r5 st = reg st.marks (R2 Try.prog lo o12_5 st.env st.H) := res_run (by kernel_rfl)
noncomputable def c12_b0 : Code := (.seq (.seq c12_r4 (.cond (.tmp 47) .skip (.exit 0))) (.seq (.block 1 (.seq c12_r6 (.seq (.seq c12_r7 (.cond (.tmp 80) (.seq c12_r8 .ret) .skip)) (.seq c12_r9 (.block 2 c12_l1))))) c12_r5))
noncomputable def c12_l0 : Code := .loop c12_b0
noncomputable def c12_r14 : Code := regOf Try.f12 14
noncomputable def o12_14 : List O := [⟨some 9, none, true, .mv (.v (.int .i64 0))⟩]
theorem g12_14 {cx : Ctx} {lo : Nat} {st : St} : om Try.prog cx lo c12_r14 st = reg st.marks (R2 Try.prog lo o12_14 st.env st.H) := res_run (by kernel_rfl)
noncomputable def c12_r15 : Code := regOf Try.f12 15
noncomputable def o12_15 : List O := [⟨some 99, none, true, .mv (.s 9)⟩,
  ⟨some 100, none, true, .fa 2 (.s 2)⟩,
  ⟨some 101, none, true, .ld none (.s 100)⟩,
  ⟨some 102, none, false, .lenl (.s 101)⟩,
  ⟨some 103, none, true, .bin .lss 3 (.s 99) (.s 102)⟩]
theorem g12_15 {cx : Ctx} {lo : Nat} {st : St} : om Try.prog cx lo c12_r15 st = reg st.marks (R2 Try.prog lo o12_15 st.env st.H) := res_run (by kernel_rfl)
noncomputable def c12_r17 : Code := regOf Try.f12 17
noncomputable def o12_17a : List O := [⟨some 106, none, true, .fa 2 (.s 2)⟩,
  ⟨some 107, none, true, .ld none (.s 106)⟩,
  ⟨some 108, none, true, .mv (.s 9)⟩,
  ⟨some 109, none, true, .ixs 3 (.s 107) (.s 108)⟩,
  ⟨some 110, none, true, .ld (some 3) (.s 109)⟩,
  ⟨some 111, none, true, .fa 2 (.s 3)⟩,
  ⟨some 112, none, true, .ld none (.s 111)⟩,
  ⟨some 113, none, true, .mv (.s 9)⟩,
  ⟨some 114, none, true, .ixs 3 (.s 112) (.s 113)⟩,
  ⟨some 115, none, true, .ld (some 3) (.s 114)⟩]
noncomputable def o12_17b : List O := [⟨some 116, none, true, .bin .neq 41 (.s 110) (.s 115)⟩]
theorem g12_17 {rnd : Option Nat} {lo : Nat} {st : St} : om Try.prog ⟨12, rnd⟩ lo c12_r17 st = reg st.marks (dre (stl (S2 Try.prog o12_17a st.env st.H) (K4 Try.prog lo o12_17b)) (Fb Try.prog lo c12_r17 st.env st.H)) := resD_run (by kernel_rfl) rfl
noncomputable def c12_r18 : Code := regOf Try.f12 18
noncomputable def o12_18 : List O := [⟨some 4, none, true, .mv (.v (.bool false))⟩]
theorem g12_18 {cx : Ctx} {lo : Nat} {st : St} : om Try.prog cx lo c12_r18 st = reg st.marks (R2 Try.prog lo o12_18 st.env st.H) := res_run (by kernel_rfl)
noncomputable def c12_r16 : Code := regOf Try.f12 16
noncomputable def o12_16 : List O := [⟨some 104, none, true, .mv (.s 9)⟩,
  ⟨some 105, none, true, .bin .add 3 (.s 104) (.v (.int .i64 1))⟩,
  ⟨some 9, none, true, .mv (.s 105)⟩]
theorem g12_16 {cx : Ctx} {lo : Nat} {st : St} : om Try.prog cx lo c12_r16 st = reg st.marks (R2 Try.prog lo o12_16 st.env st.H) := res_run (by kernel_rfl)
noncomputable def c12_b2 : Code := (.seq (.seq c12_r15 (.cond (.tmp 103) .skip (.exit 4))) (.seq (.block 5 (.seq c12_r17 (.cond (.tmp 116) (.seq c12_r18 .ret) .skip))) c12_r16))
noncomputable def c12_l2 : Code := .loop c12_b2
noncomputable def c12_r19 : Code := regOf Try.f12 19
noncomputable def o12_19 : List O := [⟨some 10, none, true, .mv (.v (.int .i64 0))⟩]
theorem g12_19 {cx : Ctx} {lo : Nat} {st : St} : om Try.prog cx lo c12_r19 st = reg st.marks (R2 Try.prog lo o12_19 st.env st.H) := res_run (by kernel_rfl)
noncomputable def c12_r20 : Code := regOf Try.f12 20
noncomputable def o12_20 : List O := [⟨some 117, none, true, .mv (.s 10)⟩,
  ⟨some 118, none, true, .fa 3 (.s 2)⟩,
  ⟨some 119, none, true, .ld none (.s 118)⟩,
  ⟨some 120, none, false, .lenl (.s 119)⟩,
  ⟨some 121, none, true, .bin .lss 3 (.s 117) (.s 120)⟩]
theorem g12_20 {cx : Ctx} {lo : Nat} {st : St} : om Try.prog cx lo c12_r20 st = reg st.marks (R2 Try.prog lo o12_20 st.env st.H) := res_run (by kernel_rfl)
noncomputable def c12_r22 : Code := regOf Try.f12 22
noncomputable def o12_22a : List O := [⟨some 124, none, true, .fa 3 (.s 2)⟩,
  ⟨some 125, none, true, .ld none (.s 124)⟩,
  ⟨some 126, none, true, .mv (.s 10)⟩,
  ⟨some 127, none, true, .ixs 8 (.s 125) (.s 126)⟩,
  ⟨some 128, none, true, .ld (some 8) (.s 127)⟩,
  ⟨some 129, none, true, .fa 3 (.s 3)⟩,
  ⟨some 130, none, true, .ld none (.s 129)⟩,
  ⟨some 131, none, true, .mv (.s 10)⟩,
  ⟨some 132, none, true, .ixs 8 (.s 130) (.s 131)⟩,
  ⟨some 133, none, true, .ld (some 8) (.s 132)⟩]
noncomputable def o12_22b : List O := [⟨some 134, none, true, .bin .neq 43 (.s 128) (.s 133)⟩]
theorem g12_22 {rnd : Option Nat} {lo : Nat} {st : St} : om Try.prog ⟨12, rnd⟩ lo c12_r22 st = reg st.marks (dre (stl (S2 Try.prog o12_22a st.env st.H) (K4 Try.prog lo o12_22b)) (Fb Try.prog lo c12_r22 st.env st.H)) := resD_run (by kernel_rfl) rfl
noncomputable def c12_r23 : Code := regOf Try.f12 23
noncomputable def o12_23 : List O := [⟨some 4, none, true, .mv (.v (.bool false))⟩]
theorem g12_23 {cx : Ctx} {lo : Nat} {st : St} : om Try.prog cx lo c12_r23 st = reg st.marks (R2 Try.prog lo o12_23 st.env st.H) := res_run (by kernel_rfl)
noncomputable def c12_r21 : Code := regOf Try.f12 21
noncomputable def o12_21 : List O := [⟨some 122, none, true, .mv (.s 10)⟩,
  ⟨some 123, none, true, .bin .add 3 (.s 122) (.v (.int .i64 1))⟩,
  ⟨some 10, none, true, .mv (.s 123)⟩]
theorem g12_21 {cx : Ctx} {lo : Nat} {st : St} : om Try.prog cx lo c12_r21 st = reg st.marks (R2 Try.prog lo o12_21 st.env st.H) := res_run (by kernel_rfl)
noncomputable def c12_b3 : Code := (.seq (.seq c12_r20 (.cond (.tmp 121) .skip (.exit 6))) (.seq (.block 7 (.seq c12_r22 (.cond (.tmp 134) (.seq c12_r23 .ret) .skip))) c12_r21))
noncomputable def c12_l3 : Code := .loop c12_b3
noncomputable def c12_r24 : Code := regOf Try.f12 24
noncomputable def o12_24 : List O := [⟨some 4, none, true, .mv (.v (.bool true))⟩]
theorem g12_24 {cx : Ctx} {lo : Nat} {st : St} : om Try.prog cx lo c12_r24 st = reg st.marks (R2 Try.prog lo o12_24 st.env st.H) := res_run (by kernel_rfl)
noncomputable def c12 : Code := (.seq c12_r0 (.seq (.seq c12_r1 (.cond (.tmp 42) (.seq c12_r2 .ret) .skip)) (.seq (.seq c12_r3 (.block 0 c12_l0)) (.seq (.seq c12_r14 (.block 4 c12_l2)) (.seq (.seq c12_r19 (.block 6 c12_l3)) (.seq c12_r24 .ret))))))
theorem c12_body : Try.f12.body = some c12 := by kernel_rfl
theorem c12_in (x0 x1 : AV) (lo : Nat) (H : Heap) : ∃ e : List AV, e.length = 135 ∧ gd e 0 = x0 ∧ gd e 1 = x1 ∧ callA Try.prog (om Try.prog) lo 12 [x0, x1] H = fin Try.prog (AV.rfL [x0, x1]) [.tmp 4] H (om Try.prog ⟨12, none⟩ (if AV.rfL [x0, x1] then H.next else lo) c12 ⟨e, [], H⟩) := by
  obtain ⟨e, h1, h2, h3⟩ := call_in (P := Try.prog) (lo := lo) (f := 12) (args := [x0, x1]) (H := H) Try.func12 c12_body rfl
  exact ⟨e, h1, h2 0 (by simp), h2 1 (by simp), h3⟩
noncomputable def c13_r0 : Code := regOf Try.f13 0
noncomputable def o13_0 : List O := [⟨some 4, none, true, .mv (.v (.int .i64 0))⟩]
theorem g13_0 {cx : Ctx} {lo : Nat} {st : St} : om Try.prog cx lo c13_r0 st = reg st.marks (R2 Try.prog lo o13_0 st.env st.H) := res_run (by kernel_rfl)
noncomputable def c13_r1 : Code := regOf Try.f13 1
noncomputable def o13_1 : List O := [⟨some 6, none, true, .mv (.s 0)⟩,
  ⟨some 7, none, false, .lenl (.s 6)⟩,
  ⟨some 8, none, true, .mv (.v (.int .i64 0))⟩]
theorem g13_1 {cx : Ctx} {lo : Nat} {st : St} : om Try.prog cx lo c13_r1 st = reg st.marks (R2 Try.prog lo o13_1 st.env st.H) := res_run (by kernel_rfl)
noncomputable def c13_r2 : Code := regOf Try.f13 2
noncomputable def o13_2 : List O := [⟨some 9, none, true, .bin .lss 3 (.s 8) (.s 7)⟩]
theorem g13_2 {cx : Ctx} {lo : Nat} {st : St} : om Try.prog cx lo c13_r2 st = reg st.marks (R2 Try.prog lo o13_2 st.env st.H) := res_run (by kernel_rfl)
noncomputable def c13_r3 : Code := regOf Try.f13 3
noncomputable def o13_3 : List O := [⟨some 10, none, true, .mv (.s 8)⟩,
  ⟨some 5, none, true, .mv (.s 10)⟩]
theorem g13_3 {cx : Ctx} {lo : Nat} {st : St} : om Try.prog cx lo c13_r3 st = reg st.marks (R2 Try.prog lo o13_3 st.env st.H) := res_run (by kernel_rfl)
noncomputable def c13_r4 : Code := regOf Try.f13 4
noncomputable def o13_4 : List O := [⟨some 11, none, true, .mv (.s 1)⟩,
  ⟨some 12, none, true, .mv (.s 0)⟩,
  ⟨some 13, none, true, .mv (.s 5)⟩,
  ⟨some 14, none, true, .ixs 3 (.s 12) (.s 13)⟩,
  ⟨some 15, none, true, .ld (some 3) (.s 14)⟩,
  ⟨some 16, none, false, .callv (.s 11) [(.s 15)]⟩]
theorem g13_4 {cx : Ctx} {lo : Nat} {st : St} : om Try.prog cx lo c13_r4 st = reg st.marks (R2 Try.prog lo o13_4 st.env st.H) := res_run (by kernel_rfl)
noncomputable def c13_r5 : Code := regOf Try.f13 5
noncomputable def o13_5 : List O := [⟨some 17, none, true, .mv (.s 5)⟩,
  ⟨some 4, none, true, .mv (.s 17)⟩]
theorem g13_5 {cx : Ctx} {lo : Nat} {st : St} : om Try.prog cx lo c13_r5 st = reg st.marks (R2 Try.prog lo o13_5 st.env st.H) := res_run (by kernel_rfl)
noncomputable def c13_r6 : Code := regOf Try.f13 6
noncomputable def o13_6 : List O := [⟨some 18, none, true, .bin .add 3 (.s 8) (.v (.int .i64 1))⟩,
  ⟨some 8, none, true, .mv (.s 18)⟩]
theorem g13_6 {cx : Ctx} {lo : Nat} {st : St} : om Try.prog cx lo c13_r6 st = reg st.marks (R2 Try.prog lo o13_6 st.env st.H) := res_run (by kernel_rfl)
noncomputable def c13_b0 : Code := (.seq c13_r2 (.seq (.cond (.tmp 9) .skip (.exit 0)) (.seq (.block 1 (.seq c13_r3 (.seq c13_r4 (.cond (.tmp 16) (.seq c13_r5 .ret) .skip)))) c13_r6)))
noncomputable def c13_l0 : Code := .loop c13_b0
noncomputable def c13_r7 : Code := regOf Try.f13 7
noncomputable def o13_7 : List O := [⟨some 4, none, true, .mv (.v (.int .i64 (-1)))⟩]
theorem g13_7 {cx : Ctx} {lo : Nat} {st : St} : om Try.prog cx lo c13_r7 st = reg st.marks (R2 Try.prog lo o13_7 st.env st.H) := res_run (by kernel_rfl)
noncomputable def c13 : Code := (.seq c13_r0 (.seq (.seq c13_r1 (.block 0 c13_l0)) (.seq c13_r7 .ret)))
theorem c13_body : Try.f13.body = some c13 := by kernel_rfl
theorem c13_in (x0 x1 : AV) (lo : Nat) (H : Heap) : ∃ e : List AV, e.length = 19 ∧ gd e 0 = x0 ∧ gd e 1 = x1 ∧ callA Try.prog (om Try.prog) lo 13 [x0, x1] H = fin Try.prog (AV.rfL [x0, x1]) [.tmp 4] H (om Try.prog ⟨13, none⟩ (if AV.rfL [x0, x1] then H.next else lo) c13 ⟨e, [], H⟩) := by
  obtain ⟨e, h1, h2, h3⟩ := call_in (P := Try.prog) (lo := lo) (f := 13) (args := [x0, x1]) (H := H) Try.func13 c13_body rfl
  exact ⟨e, h1, h2 0 (by simp), h2 1 (by simp), h3⟩
noncomputable def c14_r0 : Code := regOf Try.f14 0
noncomputable def o14_0 : List O := [⟨some 2, none, true, .box 41 3 (.s 0)⟩,
  ⟨some 3, none, true, .mv (.v (.bool false))⟩]
theorem g14_0 {cx : Ctx} {lo : Nat} {st : St} : om Try.prog cx lo c14_r0 st = reg st.marks (R2 Try.prog lo o14_0 st.env st.H) := res_run (by kernel_rfl)
noncomputable def c14_r1 : Code := regOf Try.f14 1
noncomputable def o14_1 : List O := [⟨some 4, none, true, .fa 0 (.s 2)⟩,
  ⟨some 5, none, true, .ld none (.s 4)⟩,
  ⟨some 6, none, true, .ld none (.s 1)⟩,
  ⟨some 7, none, true, .bin .eql 9 (.s 5) (.s 6)⟩,
  ⟨some 3, none, true, .mv (.s 7)⟩]
theorem g14_1 {cx : Ctx} {lo : Nat} {st : St} : om Try.prog cx lo c14_r1 st = reg st.marks (R2 Try.prog lo o14_1 st.env st.H) := res_run (by kernel_rfl)
noncomputable def c14 : Code := (.seq c14_r0 (.seq c14_r1 .ret))
theorem c14_body : Try.f14.body = some c14 := by kernel_rfl
theorem c14_in (x0 x1 : AV) (lo : Nat) (H : Heap) : ∃ e : List AV, e.length = 8 ∧ gd e 0 = x0 ∧ gd e 1 = x1 ∧ callA Try.prog (om Try.prog) lo 14 [x0, x1] H = fin Try.prog (AV.rfL [x0, x1]) [.tmp 3] H (om Try.prog ⟨14, none⟩ (if AV.rfL [x0, x1] then H.next else lo) c14 ⟨e, [], H⟩) := by
  obtain ⟨e, h1, h2, h3⟩ := call_in (P := Try.prog) (lo := lo) (f := 14) (args := [x0, x1]) (H := H) Try.func14 c14_body rfl
  exact ⟨e, h1, h2 0 (by simp), h2 1 (by simp), h3⟩
noncomputable def c15_r0 : Code := regOf Try.f15 0
noncomputable def o15_0 : List O := [⟨some 1, none, true, .box 26 4 (.s 0)⟩,
  ⟨some 2, none, true, .mv (.v (.bool false))⟩]
theorem g15_0 {cx : Ctx} {lo : Nat} {st : St} : om Try.prog cx lo c15_r0 st = reg st.marks (R2 Try.prog lo o15_0 st.env st.H) := res_run (by kernel_rfl)
noncomputable def c15_r1 : Code := regOf Try.f15 1
noncomputable def o15_1 : List O := [⟨some 10, none, true, .fa 0 (.s 1)⟩,
  ⟨some 11, none, true, .ld none (.s 10)⟩,
  ⟨some 12, none, false, .call 33 [(.s 11)]⟩,
  ⟨some 13, none, true, .un .not (.s 12)⟩,
  ⟨some 14, none, true, .mv (.s 13)⟩,
  ⟨some 15, (some (some 14, false)), true, .fa 1 (.s 1)⟩,
  ⟨some 16, (some (some 14, false)), true, .ld none (.s 15)⟩,
  ⟨some 17, (some (some 14, false)), false, .lenl (.s 16)⟩,
  ⟨some 18, (some (some 14, false)), true, .bin .gtr 3 (.s 17) (.v (.int .i64 16))⟩,
  ⟨some 19, none, true, .pick (.s 14) (.v (.bool true)) (.s 18)⟩,
  ⟨some 20, none, true, .mv (.s 19)⟩,
  ⟨some 21, (some (some 20, false)), true, .fa 2 (.s 1)⟩,
  ⟨some 22, (some (some 20, false)), true, .ld none (.s 21)⟩,
  ⟨some 23, (some (some 20, false)), false, .lenl (.s 22)⟩,
  ⟨some 24, (some (some 20, false)), true, .bin .gtr 3 (.s 23) (.v (.int .i64 200))⟩,
  ⟨some 25, none, true, .pick (.s 20) (.v (.bool true)) (.s 24)⟩,
  ⟨some 26, none, true, .mv (.s 25)⟩,
  ⟨some 27, (some (some 26, false)), true, .fa 3 (.s 1)⟩,
  ⟨some 28, (some (some 26, false)), true, .ld none (.s 27)⟩,
  ⟨some 29, (some (some 26, false)), false, .lenl (.s 28)⟩,
  ⟨some 30, (some (some 26, false)), true, .bin .gtr 3 (.s 29) (.v (.int .i64 500))⟩,
  ⟨some 31, none, true, .pick (.s 26) (.v (.bool true)) (.s 30)⟩]
theorem g15_1 {cx : Ctx} {lo : Nat} {st : St} : om Try.prog cx lo c15_r1 st = reg st.marks (R2 Try.prog lo o15_1 st.env st.H) := res_run (by kernel_rfl)
noncomputable def c15_r2 : Code := regOf Try.f15 2
noncomputable def o15_2 : List O := [⟨some 2, none, true, .mv (.v (.bool false))⟩]
theorem g15_2 {cx : Ctx} {lo : Nat} {st : St} : om Try.prog cx lo c15_r2 st = reg st.marks (R2 Try.prog lo o15_2 st.env st.H) := res_run (by kernel_rfl)
noncomputable def c15_r3 : Code := regOf Try.f15 3
noncomputable def o15_3 : List O := [⟨some 3, none, true, .mv (.v (.int .i64 0))⟩]
theorem g15_3 {cx : Ctx} {lo : Nat} {st : St} : om Try.prog cx lo c15_r3 st = reg st.marks (R2 Try.prog lo o15_3 st.env st.H) := res_run (by kernel_rfl)
noncomputable def c15_r4 : Code := regOf Try.f15 4
noncomputable def o15_4 : List O := [⟨some 32, none, true, .mv (.s 3)⟩,
  ⟨some 33, none, true, .fa 1 (.s 1)⟩,
  ⟨some 34, none, true, .ld none (.s 33)⟩,
  ⟨some 35, none, false, .lenl (.s 34)⟩,
  ⟨some 36, none, true, .bin .lss 3 (.s 32) (.s 35)⟩]
theorem g15_4 {cx : Ctx} {lo : Nat} {st : St} : om Try.prog cx lo c15_r4 st = reg st.marks (R2 Try.prog lo o15_4 st.env st.H) := res_run (by kernel_rfl)
noncomputable def c15_r6 : Code := regOf Try.f15 6
noncomputable def o15_6 : List O := [⟨some 39, none, true, .fa 1 (.s 1)⟩,
  ⟨some 40, none, true, .ld none (.s 39)⟩,
  ⟨some 41, none, true, .mv (.s 3)⟩,
  ⟨some 42, none, true, .ixs 3 (.s 40) (.s 41)⟩,
  ⟨some 43, none, true, .ld (some 3) (.s 42)⟩,
  ⟨some 4, none, true, .new 39 [(.str ByteArray.empty), (.int .i64 0), (.rsl none 0 0 [])]⟩,
  ⟨none, none, false, .st 3 (.s 4) (.s 43)⟩]
theorem g15_6 {cx : Ctx} {lo : Nat} {st : St} : om Try.prog cx lo c15_r6 st = reg st.marks (R2 Try.prog lo o15_6 st.env st.H) := res_run (by kernel_rfl)
noncomputable def c15_r7 : Code := regOf Try.f15 7
noncomputable def o15_7 : List O := [⟨some 44, none, true, .fa 0 (.s 4)⟩,
  ⟨some 45, none, true, .ld none (.s 44)⟩,
  ⟨some 46, none, false, .call 33 [(.s 45)]⟩,
  ⟨some 47, none, true, .un .not (.s 46)⟩,
  ⟨some 48, none, true, .mv (.s 47)⟩,
  ⟨some 49, (some (some 48, false)), true, .fa 1 (.s 4)⟩,
  ⟨some 50, (some (some 48, false)), true, .ld none (.s 49)⟩,
  ⟨some 51, (some (some 48, false)), false, .call 34 [(.s 50), (.v (.int .i64 0)), (.v (.int .i64 12))]⟩,
  ⟨some 52, (some (some 48, false)), true, .un .not (.s 51)⟩,
  ⟨some 53, none, true, .pick (.s 48) (.v (.bool true)) (.s 52)⟩,
  ⟨some 54, none, true, .mv (.s 53)⟩,
  ⟨some 55, (some (some 54, false)), true, .fa 2 (.s 4)⟩,
  ⟨some 56, (some (some 54, false)), true, .ld none (.s 55)⟩,
  ⟨some 57, (some (some 54, false)), false, .lenl (.s 56)⟩,
  ⟨some 58, (some (some 54, false)), true, .bin .gtr 3 (.s 57) (.v (.int .i64 16384))⟩,
  ⟨some 59, none, true, .pick (.s 54) (.v (.bool true)) (.s 58)⟩]
theorem g15_7 {cx : Ctx} {lo : Nat} {st : St} : om Try.prog cx lo c15_r7 st = reg st.marks (R2 Try.prog lo o15_7 st.env st.H) := res_run (by kernel_rfl)
noncomputable def c15_r8 : Code := regOf Try.f15 8
noncomputable def o15_8 : List O := [⟨some 2, none, true, .mv (.v (.bool false))⟩]
theorem g15_8 {cx : Ctx} {lo : Nat} {st : St} : om Try.prog cx lo c15_r8 st = reg st.marks (R2 Try.prog lo o15_8 st.env st.H) := res_run (by kernel_rfl)
noncomputable def c15_r9 : Code := regOf Try.f15 9
noncomputable def o15_9 : List O := [⟨some 5, none, true, .mv (.v (.int .i64 0))⟩]
theorem g15_9 {cx : Ctx} {lo : Nat} {st : St} : om Try.prog cx lo c15_r9 st = reg st.marks (R2 Try.prog lo o15_9 st.env st.H) := res_run (by kernel_rfl)
noncomputable def c15_r10 : Code := regOf Try.f15 10
noncomputable def o15_10 : List O := [⟨some 60, none, true, .mv (.s 5)⟩,
  ⟨some 61, none, true, .mv (.s 3)⟩,
  ⟨some 62, none, true, .bin .lss 3 (.s 60) (.s 61)⟩]
theorem g15_10 {cx : Ctx} {lo : Nat} {st : St} : om Try.prog cx lo c15_r10 st = reg st.marks (R2 Try.prog lo o15_10 st.env st.H) := res_run (by kernel_rfl)
noncomputable def c15_r12 : Code := regOf Try.f15 12
noncomputable def o15_12a : List O := [⟨some 65, none, true, .fa 1 (.s 1)⟩,
  ⟨some 66, none, true, .ld none (.s 65)⟩,
  ⟨some 67, none, true, .mv (.s 5)⟩,
  ⟨some 68, none, true, .ixs 3 (.s 66) (.s 67)⟩,
  ⟨some 69, none, true, .fa 0 (.s 68)⟩,
  ⟨some 70, none, true, .ld none (.s 69)⟩,
  ⟨some 71, none, true, .fa 0 (.s 4)⟩,
  ⟨some 72, none, true, .ld none (.s 71)⟩]
noncomputable def o15_12b : List O := [⟨some 73, none, true, .bin .eql 9 (.s 70) (.s 72)⟩]
theorem g15_12 {rnd : Option Nat} {lo : Nat} {st : St} : om Try.prog ⟨15, rnd⟩ lo c15_r12 st = reg st.marks (dre (stl (S2 Try.prog o15_12a st.env st.H) (K4 Try.prog lo o15_12b)) (Fb Try.prog lo c15_r12 st.env st.H)) := resD_run (by kernel_rfl) rfl
noncomputable def c15_r13 : Code := regOf Try.f15 13
noncomputable def o15_13 : List O := [⟨some 2, none, true, .mv (.v (.bool false))⟩]
theorem g15_13 {cx : Ctx} {lo : Nat} {st : St} : om Try.prog cx lo c15_r13 st = reg st.marks (R2 Try.prog lo o15_13 st.env st.H) := res_run (by kernel_rfl)
noncomputable def c15_r11 : Code := regOf Try.f15 11
noncomputable def o15_11 : List O := [⟨some 63, none, true, .mv (.s 5)⟩,
  ⟨some 64, none, true, .bin .add 3 (.s 63) (.v (.int .i64 1))⟩,
  ⟨some 5, none, true, .mv (.s 64)⟩]
theorem g15_11 {cx : Ctx} {lo : Nat} {st : St} : om Try.prog cx lo c15_r11 st = reg st.marks (R2 Try.prog lo o15_11 st.env st.H) := res_run (by kernel_rfl)
noncomputable def c15_b1 : Code := (.seq (.seq c15_r10 (.cond (.tmp 62) .skip (.exit 2))) (.seq (.block 3 (.seq c15_r12 (.cond (.tmp 73) (.seq c15_r13 .ret) .skip))) c15_r11))
noncomputable def c15_l1 : Code := .loop c15_b1
noncomputable def c15_r5 : Code := regOf Try.f15 5
noncomputable def o15_5 : List O := [⟨some 37, none, true, .mv (.s 3)⟩,
  ⟨some 38, none, true, .bin .add 3 (.s 37) (.v (.int .i64 1))⟩,
  ⟨some 3, none, true, .mv (.s 38)⟩]
theorem g15_5 {cx : Ctx} {lo : Nat} {st : St} : om Try.prog cx lo c15_r5 st = reg st.marks (R2 Try.prog lo o15_5 st.env st.H) := res_run (by kernel_rfl)
noncomputable def c15_b0 : Code := (.seq (.seq c15_r4 (.cond (.tmp 36) .skip (.exit 0))) (.seq (.block 1 (.seq c15_r6 (.seq (.seq c15_r7 (.cond (.tmp 59) (.seq c15_r8 .ret) .skip)) (.seq c15_r9 (.block 2 c15_l1))))) c15_r5))
noncomputable def c15_l0 : Code := .loop c15_b0
noncomputable def c15_r14 : Code := regOf Try.f15 14
noncomputable def o15_14 : List O := [⟨some 6, none, true, .mv (.v (.int .i64 0))⟩]
theorem g15_14 {cx : Ctx} {lo : Nat} {st : St} : om Try.prog cx lo c15_r14 st = reg st.marks (R2 Try.prog lo o15_14 st.env st.H) := res_run (by kernel_rfl)
noncomputable def c15_r15 : Code := regOf Try.f15 15
noncomputable def o15_15 : List O := [⟨some 74, none, true, .mv (.s 6)⟩,
  ⟨some 75, none, true, .fa 2 (.s 1)⟩,
  ⟨some 76, none, true, .ld none (.s 75)⟩,
  ⟨some 77, none, false, .lenl (.s 76)⟩,
  ⟨some 78, none, true, .bin .lss 3 (.s 74) (.s 77)⟩]
theorem g15_15 {cx : Ctx} {lo : Nat} {st : St} : om Try.prog cx lo c15_r15 st = reg st.marks (R2 Try.prog lo o15_15 st.env st.H) := res_run (by kernel_rfl)
noncomputable def c15_r17 : Code := regOf Try.f15 17
noncomputable def o15_17 : List O := [⟨some 81, none, true, .fa 2 (.s 1)⟩,
  ⟨some 82, none, true, .ld none (.s 81)⟩,
  ⟨some 83, none, true, .mv (.s 6)⟩,
  ⟨some 84, none, true, .ixs 3 (.s 82) (.s 83)⟩,
  ⟨some 85, none, true, .ld (some 3) (.s 84)⟩,
  ⟨some 7, none, true, .new 41 [(.str ByteArray.empty), (.int .i64 0), (.int .i64 0)]⟩,
  ⟨none, none, false, .st 3 (.s 7) (.s 85)⟩]
theorem g15_17 {cx : Ctx} {lo : Nat} {st : St} : om Try.prog cx lo c15_r17 st = reg st.marks (R2 Try.prog lo o15_17 st.env st.H) := res_run (by kernel_rfl)
noncomputable def c15_r18 : Code := regOf Try.f15 18
noncomputable def o15_18 : List O := [⟨some 86, none, true, .fa 0 (.s 7)⟩,
  ⟨some 87, none, true, .ld none (.s 86)⟩,
  ⟨some 88, none, false, .call 33 [(.s 87)]⟩,
  ⟨some 89, none, true, .un .not (.s 88)⟩,
  ⟨some 90, none, true, .mv (.s 89)⟩,
  ⟨some 91, (some (some 90, false)), true, .fa 1 (.s 7)⟩,
  ⟨some 92, (some (some 90, false)), true, .ld none (.s 91)⟩,
  ⟨some 93, (some (some 90, false)), true, .fa 1 (.s 1)⟩,
  ⟨some 94, (some (some 90, false)), true, .ld none (.s 93)⟩,
  ⟨some 95, (some (some 90, false)), false, .lenl (.s 94)⟩,
  ⟨some 96, (some (some 90, false)), true, .bin .sub 3 (.s 95) (.v (.int .i64 1))⟩,
  ⟨some 97, (some (some 90, false)), false, .call 34 [(.s 92), (.v (.int .i64 (-1))), (.s 96)]⟩,
  ⟨some 98, (some (some 90, false)), true, .un .not (.s 97)⟩,
  ⟨some 99, none, true, .pick (.s 90) (.v (.bool true)) (.s 98)⟩]
theorem g15_18 {cx : Ctx} {lo : Nat} {st : St} : om Try.prog cx lo c15_r18 st = reg st.marks (R2 Try.prog lo o15_18 st.env st.H) := res_run (by kernel_rfl)
noncomputable def c15_r19 : Code := regOf Try.f15 19
noncomputable def o15_19 : List O := [⟨some 2, none, true, .mv (.v (.bool false))⟩]
theorem g15_19 {cx : Ctx} {lo : Nat} {st : St} : om Try.prog cx lo c15_r19 st = reg st.marks (R2 Try.prog lo o15_19 st.env st.H) := res_run (by kernel_rfl)
noncomputable def c15_r20 : Code := regOf Try.f15 20
noncomputable def o15_20a : List O := [⟨some 100, none, true, .fa 1 (.s 7)⟩,
  ⟨some 101, none, true, .ld none (.s 100)⟩,
  ⟨some 102, none, true, .bin .eql 3 (.s 101) (.v (.int .i64 (-1)))⟩,
  ⟨some 103, none, true, .mv (.s 102)⟩,
  ⟨some 104, (some (some 103, true)), true, .fa 2 (.s 7)⟩,
  ⟨some 105, (some (some 103, true)), true, .ld none (.s 104)⟩,
  ⟨some 106, (some (some 103, true)), true, .bin .neq 3 (.s 105) (.v (.int .i64 0))⟩,
  ⟨some 107, none, true, .pick (.s 103) (.s 106) (.v (.bool false))⟩,
  ⟨some 108, none, true, .mv (.s 107)⟩,
  ⟨some 109, (some (some 108, false)), true, .fa 1 (.s 7)⟩,
  ⟨some 110, (some (some 108, false)), true, .ld none (.s 109)⟩,
  ⟨some 111, (some (some 108, false)), true, .bin .geq 3 (.s 110) (.v (.int .i64 0))⟩,
  ⟨some 112, (some (some 108, false)), true, .mv (.s 111)⟩,
  ⟨some 113, (some (some 112, true)), true, .fa 2 (.s 7)⟩,
  ⟨some 114, (some (some 112, true)), true, .ld none (.s 113)⟩,
  ⟨some 115, (some (some 112, true)), true, .fa 1 (.s 1)⟩,
  ⟨some 116, (some (some 112, true)), true, .ld none (.s 115)⟩,
  ⟨some 117, (some (some 112, true)), true, .fa 1 (.s 7)⟩,
  ⟨some 118, (some (some 112, true)), true, .ld none (.s 117)⟩,
  ⟨some 119, (some (some 112, true)), true, .ixs 3 (.s 116) (.s 118)⟩,
  ⟨some 120, (some (some 112, true)), true, .fa 2 (.s 119)⟩,
  ⟨some 121, (some (some 112, true)), true, .ld none (.s 120)⟩,
  ⟨some 122, (some (some 112, true)), false, .lenl (.s 121)⟩]
noncomputable def o15_20b : List O := [⟨some 123, (some (some 112, true)), false, .call 34 [(.s 114), (.v (.int .i64 0)), (.s 122)]⟩,
  ⟨some 124, (some (some 112, true)), true, .un .not (.s 123)⟩,
  ⟨some 125, (some (some 108, false)), true, .pick (.s 112) (.s 124) (.v (.bool false))⟩,
  ⟨some 126, none, true, .pick (.s 108) (.v (.bool true)) (.s 125)⟩]
theorem g15_20 {rnd : Option Nat} {lo : Nat} {st : St} : om Try.prog ⟨15, rnd⟩ lo c15_r20 st = reg st.marks (dre (stl (S2 Try.prog o15_20a st.env st.H) (K4 Try.prog lo o15_20b)) (Fb Try.prog lo c15_r20 st.env st.H)) := resD_run (by kernel_rfl) rfl
noncomputable def c15_r21 : Code := regOf Try.f15 21
noncomputable def o15_21 : List O := [⟨some 2, none, true, .mv (.v (.bool false))⟩]
theorem g15_21 {cx : Ctx} {lo : Nat} {st : St} : om Try.prog cx lo c15_r21 st = reg st.marks (R2 Try.prog lo o15_21 st.env st.H) := res_run (by kernel_rfl)
noncomputable def c15_r22 : Code := regOf Try.f15 22
noncomputable def o15_22 : List O := [⟨some 8, none, true, .mv (.v (.int .i64 0))⟩]
theorem g15_22 {cx : Ctx} {lo : Nat} {st : St} : om Try.prog cx lo c15_r22 st = reg st.marks (R2 Try.prog lo o15_22 st.env st.H) := res_run (by kernel_rfl)
noncomputable def c15_r23 : Code := regOf Try.f15 23
noncomputable def o15_23 : List O := [⟨some 127, none, true, .mv (.s 8)⟩,
  ⟨some 128, none, true, .mv (.s 6)⟩,
  ⟨some 129, none, true, .bin .lss 3 (.s 127) (.s 128)⟩]
theorem g15_23 {cx : Ctx} {lo : Nat} {st : St} : om Try.prog cx lo c15_r23 st = reg st.marks (R2 Try.prog lo o15_23 st.env st.H) := res_run (by kernel_rfl)
noncomputable def c15_r25 : Code := regOf Try.f15 25
noncomputable def o15_25a : List O := [⟨some 132, none, true, .fa 2 (.s 1)⟩,
  ⟨some 133, none, true, .ld none (.s 132)⟩,
  ⟨some 134, none, true, .mv (.s 8)⟩,
  ⟨some 135, none, true, .ixs 3 (.s 133) (.s 134)⟩,
  ⟨some 136, none, true, .fa 0 (.s 135)⟩,
  ⟨some 137, none, true, .ld none (.s 136)⟩,
  ⟨some 138, none, true, .fa 0 (.s 7)⟩,
  ⟨some 139, none, true, .ld none (.s 138)⟩]
noncomputable def o15_25b : List O := [⟨some 140, none, true, .bin .eql 9 (.s 137) (.s 139)⟩]
theorem g15_25 {rnd : Option Nat} {lo : Nat} {st : St} : om Try.prog ⟨15, rnd⟩ lo c15_r25 st = reg st.marks (dre (stl (S2 Try.prog o15_25a st.env st.H) (K4 Try.prog lo o15_25b)) (Fb Try.prog lo c15_r25 st.env st.H)) := resD_run (by kernel_rfl) rfl
noncomputable def c15_r26 : Code := regOf Try.f15 26
noncomputable def o15_26 : List O := [⟨some 2, none, true, .mv (.v (.bool false))⟩]
theorem g15_26 {cx : Ctx} {lo : Nat} {st : St} : om Try.prog cx lo c15_r26 st = reg st.marks (R2 Try.prog lo o15_26 st.env st.H) := res_run (by kernel_rfl)
noncomputable def c15_r24 : Code := regOf Try.f15 24
noncomputable def o15_24 : List O := [⟨some 130, none, true, .mv (.s 8)⟩,
  ⟨some 131, none, true, .bin .add 3 (.s 130) (.v (.int .i64 1))⟩,
  ⟨some 8, none, true, .mv (.s 131)⟩]
theorem g15_24 {cx : Ctx} {lo : Nat} {st : St} : om Try.prog cx lo c15_r24 st = reg st.marks (R2 Try.prog lo o15_24 st.env st.H) := res_run (by kernel_rfl)
noncomputable def c15_b3 : Code := (.seq (.seq c15_r23 (.cond (.tmp 129) .skip (.exit 6))) (.seq (.block 7 (.seq c15_r25 (.cond (.tmp 140) (.seq c15_r26 .ret) .skip))) c15_r24))
noncomputable def c15_l3 : Code := .loop c15_b3
noncomputable def c15_r16 : Code := regOf Try.f15 16
noncomputable def o15_16 : List O := [⟨some 79, none, true, .mv (.s 6)⟩,
  ⟨some 80, none, true, .bin .add 3 (.s 79) (.v (.int .i64 1))⟩,
  ⟨some 6, none, true, .mv (.s 80)⟩]
theorem g15_16 {cx : Ctx} {lo : Nat} {st : St} : om Try.prog cx lo c15_r16 st = reg st.marks (R2 Try.prog lo o15_16 st.env st.H) := res_run (by kernel_rfl)
noncomputable def c15_b2 : Code := (.seq (.seq c15_r15 (.cond (.tmp 78) .skip (.exit 4))) (.seq (.block 5 (.seq c15_r17 (.seq (.seq c15_r18 (.cond (.tmp 99) (.seq c15_r19 .ret) .skip)) (.seq (.seq c15_r20 (.cond (.tmp 126) (.seq c15_r21 .ret) .skip)) (.seq c15_r22 (.block 6 c15_l3)))))) c15_r16))
noncomputable def c15_l2 : Code := .loop c15_b2
noncomputable def c15_r27 : Code := regOf Try.f15 27
noncomputable def o15_27 : List O := [⟨some 9, none, true, .mv (.v (.int .i64 0))⟩]
theorem g15_27 {cx : Ctx} {lo : Nat} {st : St} : om Try.prog cx lo c15_r27 st = reg st.marks (R2 Try.prog lo o15_27 st.env st.H) := res_run (by kernel_rfl)
noncomputable def c15_r28 : Code := regOf Try.f15 28
noncomputable def o15_28 : List O := [⟨some 141, none, true, .mv (.s 9)⟩,
  ⟨some 142, none, true, .fa 3 (.s 1)⟩,
  ⟨some 143, none, true, .ld none (.s 142)⟩,
  ⟨some 144, none, false, .lenl (.s 143)⟩,
  ⟨some 145, none, true, .bin .lss 3 (.s 141) (.s 144)⟩]
theorem g15_28 {cx : Ctx} {lo : Nat} {st : St} : om Try.prog cx lo c15_r28 st = reg st.marks (R2 Try.prog lo o15_28 st.env st.H) := res_run (by kernel_rfl)
noncomputable def c15_r30 : Code := regOf Try.f15 30
noncomputable def o15_30a : List O := [⟨some 148, none, true, .ld (some 4) (.s 1)⟩,
  ⟨some 149, none, true, .fa 3 (.s 1)⟩,
  ⟨some 150, none, true, .ld none (.s 149)⟩,
  ⟨some 151, none, true, .mv (.s 9)⟩,
  ⟨some 152, none, true, .ixs 8 (.s 150) (.s 151)⟩,
  ⟨some 153, none, true, .ld (some 8) (.s 152)⟩,
  ⟨some 154, none, false, .call 35 [(.s 148), (.s 153)]⟩,
  ⟨some 155, none, true, .un .not (.s 154)⟩,
  ⟨some 156, none, true, .mv (.s 155)⟩,
  ⟨some 157, (some (some 156, false)), true, .mv (.s 9)⟩,
  ⟨some 158, (some (some 156, false)), true, .bin .gtr 3 (.s 157) (.v (.int .i64 0))⟩,
  ⟨some 159, (some (some 156, false)), true, .mv (.s 158)⟩,
  ⟨some 160, (some (some 159, true)), true, .fa 3 (.s 1)⟩,
  ⟨some 161, (some (some 159, true)), true, .ld none (.s 160)⟩,
  ⟨some 162, (some (some 159, true)), true, .mv (.s 9)⟩,
  ⟨some 163, (some (some 159, true)), true, .bin .sub 3 (.s 162) (.v (.int .i64 1))⟩,
  ⟨some 164, (some (some 159, true)), true, .ixs 8 (.s 161) (.s 163)⟩,
  ⟨some 165, (some (some 159, true)), true, .ld (some 8) (.s 164)⟩,
  ⟨some 166, (some (some 159, true)), true, .fa 3 (.s 1)⟩,
  ⟨some 167, (some (some 159, true)), true, .ld none (.s 166)⟩,
  ⟨some 168, (some (some 159, true)), true, .mv (.s 9)⟩,
  ⟨some 169, (some (some 159, true)), true, .ixs 8 (.s 167) (.s 168)⟩,
  ⟨some 170, (some (some 159, true)), true, .ld (some 8) (.s 169)⟩]
noncomputable def o15_30b : List O := [⟨some 171, (some (some 159, true)), false, .call 36 [(.s 165), (.s 170)]⟩,
  ⟨some 172, (some (some 159, true)), true, .un .not (.s 171)⟩,
  ⟨some 173, (some (some 156, false)), true, .pick (.s 159) (.s 172) (.v (.bool false))⟩,
  ⟨some 174, none, true, .pick (.s 156) (.v (.bool true)) (.s 173)⟩]
theorem g15_30 {rnd : Option Nat} {lo : Nat} {st : St} : om Try.prog ⟨15, rnd⟩ lo c15_r30 st = reg st.marks (dre (stl (S2 Try.prog o15_30a st.env st.H) (K4 Try.prog lo o15_30b)) (Fb Try.prog lo c15_r30 st.env st.H)) := resD_run (by kernel_rfl) rfl
noncomputable def c15_r31 : Code := regOf Try.f15 31
noncomputable def o15_31 : List O := [⟨some 2, none, true, .mv (.v (.bool false))⟩]
theorem g15_31 {cx : Ctx} {lo : Nat} {st : St} : om Try.prog cx lo c15_r31 st = reg st.marks (R2 Try.prog lo o15_31 st.env st.H) := res_run (by kernel_rfl)
noncomputable def c15_r29 : Code := regOf Try.f15 29
noncomputable def o15_29 : List O := [⟨some 146, none, true, .mv (.s 9)⟩,
  ⟨some 147, none, true, .bin .add 3 (.s 146) (.v (.int .i64 1))⟩,
  ⟨some 9, none, true, .mv (.s 147)⟩]
theorem g15_29 {cx : Ctx} {lo : Nat} {st : St} : om Try.prog cx lo c15_r29 st = reg st.marks (R2 Try.prog lo o15_29 st.env st.H) := res_run (by kernel_rfl)
noncomputable def c15_b4 : Code := (.seq (.seq c15_r28 (.cond (.tmp 145) .skip (.exit 8))) (.seq (.block 9 (.seq c15_r30 (.cond (.tmp 174) (.seq c15_r31 .ret) .skip))) c15_r29))
noncomputable def c15_l4 : Code := .loop c15_b4
noncomputable def c15_r32 : Code := regOf Try.f15 32
noncomputable def o15_32 : List O := [⟨some 2, none, true, .mv (.v (.bool true))⟩]
theorem g15_32 {cx : Ctx} {lo : Nat} {st : St} : om Try.prog cx lo c15_r32 st = reg st.marks (R2 Try.prog lo o15_32 st.env st.H) := res_run (by kernel_rfl)
noncomputable def c15 : Code := (.seq c15_r0 (.seq (.seq c15_r1 (.cond (.tmp 31) (.seq c15_r2 .ret) .skip)) (.seq (.seq c15_r3 (.block 0 c15_l0)) (.seq (.seq c15_r14 (.block 4 c15_l2)) (.seq (.seq c15_r27 (.block 8 c15_l4)) (.seq c15_r32 .ret))))))
theorem c15_body : Try.f15.body = some c15 := by kernel_rfl
theorem c15_in (x0 : AV) (lo : Nat) (H : Heap) : ∃ e : List AV, e.length = 175 ∧ gd e 0 = x0 ∧ callA Try.prog (om Try.prog) lo 15 [x0] H = fin Try.prog (AV.rfL [x0]) [.tmp 2] H (om Try.prog ⟨15, none⟩ (if AV.rfL [x0] then H.next else lo) c15 ⟨e, [], H⟩) := by
  obtain ⟨e, h1, h2, h3⟩ := call_in (P := Try.prog) (lo := lo) (f := 15) (args := [x0]) (H := H) Try.func15 c15_body rfl
  exact ⟨e, h1, h2 0 (by simp), h3⟩
noncomputable def c16_r0 : Code := regOf Try.f16 0
noncomputable def o16_0 : List O := [⟨some 2, none, true, .mv (.v (.rsl none 0 0 []))⟩]
theorem g16_0 {cx : Ctx} {lo : Nat} {st : St} : om Try.prog cx lo c16_r0 st = reg st.marks (R2 Try.prog lo o16_0 st.env st.H) := res_run (by kernel_rfl)
noncomputable def c16_r1 : Code := regOf Try.f16 1
noncomputable def o16_1 : List O := [⟨some 3, none, true, .mv (.s 0)⟩,
  ⟨some 4, none, true, .bin .eql 22 (.s 3) (.v (.rsl none 0 0 []))⟩]
theorem g16_1 {cx : Ctx} {lo : Nat} {st : St} : om Try.prog cx lo c16_r1 st = reg st.marks (R2 Try.prog lo o16_1 st.env st.H) := res_run (by kernel_rfl)
noncomputable def c16_r2 : Code := regOf Try.f16 2
noncomputable def o16_2 : List O := [⟨some 2, none, true, .mv (.v (.rsl none 0 0 []))⟩]
theorem g16_2 {cx : Ctx} {lo : Nat} {st : St} : om Try.prog cx lo c16_r2 st = reg st.marks (R2 Try.prog lo o16_2 st.env st.H) := res_run (by kernel_rfl)
noncomputable def c16_r3 : Code := regOf Try.f16 3
noncomputable def o16_3 : List O := [⟨some 5, none, true, .bsl 39 3 [] 0 []⟩,
  ⟨some 6, none, true, .mv (.s 0)⟩,
  ⟨some 7, none, false, .raw (.call ⟨.builtin .append, #[(.tmp 5), (.tmp 6)], #[22, 22]⟩)⟩,
  ⟨some 2, none, true, .mv (.s 7)⟩]
theorem g16_3 {cx : Ctx} {lo : Nat} {st : St} : om Try.prog cx lo c16_r3 st = reg st.marks (R2 Try.prog lo o16_3 st.env st.H) := res_run (by kernel_rfl)
noncomputable def c16 : Code := (.seq c16_r0 (.seq (.seq c16_r1 (.cond (.tmp 4) (.seq c16_r2 .ret) .skip)) (.seq c16_r3 .ret)))
theorem c16_body : Try.f16.body = some c16 := by kernel_rfl
theorem c16_in (x0 : AV) (lo : Nat) (H : Heap) : ∃ e : List AV, e.length = 8 ∧ gd e 0 = x0 ∧ callA Try.prog (om Try.prog) lo 16 [x0] H = fin Try.prog (AV.rfL [x0]) [.tmp 2] H (om Try.prog ⟨16, none⟩ (if AV.rfL [x0] then H.next else lo) c16 ⟨e, [], H⟩) := by
  obtain ⟨e, h1, h2, h3⟩ := call_in (P := Try.prog) (lo := lo) (f := 16) (args := [x0]) (H := H) Try.func16 c16_body rfl
  exact ⟨e, h1, h2 0 (by simp), h3⟩
noncomputable def c17_r0 : Code := regOf Try.f17 0
noncomputable def o17_0 : List O := [⟨some 2, none, true, .mv (.v (.rsl none 0 0 []))⟩]
theorem g17_0 {cx : Ctx} {lo : Nat} {st : St} : om Try.prog cx lo c17_r0 st = reg st.marks (R2 Try.prog lo o17_0 st.env st.H) := res_run (by kernel_rfl)
noncomputable def c17_r1 : Code := regOf Try.f17 1
noncomputable def o17_1 : List O := [⟨some 3, none, true, .mv (.s 0)⟩,
  ⟨some 4, none, true, .bin .eql 23 (.s 3) (.v (.rsl none 0 0 []))⟩]
theorem g17_1 {cx : Ctx} {lo : Nat} {st : St} : om Try.prog cx lo c17_r1 st = reg st.marks (R2 Try.prog lo o17_1 st.env st.H) := res_run (by kernel_rfl)
noncomputable def c17_r2 : Code := regOf Try.f17 2
noncomputable def o17_2 : List O := [⟨some 2, none, true, .mv (.v (.rsl none 0 0 []))⟩]
theorem g17_2 {cx : Ctx} {lo : Nat} {st : St} : om Try.prog cx lo c17_r2 st = reg st.marks (R2 Try.prog lo o17_2 st.env st.H) := res_run (by kernel_rfl)
noncomputable def c17_r3 : Code := regOf Try.f17 3
noncomputable def o17_3 : List O := [⟨some 5, none, true, .bsl 41 3 [] 0 []⟩,
  ⟨some 6, none, true, .mv (.s 0)⟩,
  ⟨some 7, none, false, .raw (.call ⟨.builtin .append, #[(.tmp 5), (.tmp 6)], #[23, 23]⟩)⟩,
  ⟨some 2, none, true, .mv (.s 7)⟩]
theorem g17_3 {cx : Ctx} {lo : Nat} {st : St} : om Try.prog cx lo c17_r3 st = reg st.marks (R2 Try.prog lo o17_3 st.env st.H) := res_run (by kernel_rfl)
noncomputable def c17 : Code := (.seq c17_r0 (.seq (.seq c17_r1 (.cond (.tmp 4) (.seq c17_r2 .ret) .skip)) (.seq c17_r3 .ret)))
theorem c17_body : Try.f17.body = some c17 := by kernel_rfl
theorem c17_in (x0 : AV) (lo : Nat) (H : Heap) : ∃ e : List AV, e.length = 8 ∧ gd e 0 = x0 ∧ callA Try.prog (om Try.prog) lo 17 [x0] H = fin Try.prog (AV.rfL [x0]) [.tmp 2] H (om Try.prog ⟨17, none⟩ (if AV.rfL [x0] then H.next else lo) c17 ⟨e, [], H⟩) := by
  obtain ⟨e, h1, h2, h3⟩ := call_in (P := Try.prog) (lo := lo) (f := 17) (args := [x0]) (H := H) Try.func17 c17_body rfl
  exact ⟨e, h1, h2 0 (by simp), h3⟩
noncomputable def c18_r0 : Code := regOf Try.f18 0
noncomputable def o18_0 : List O := [⟨some 2, none, true, .mv (.v (.rsl none 0 0 []))⟩]
theorem g18_0 {cx : Ctx} {lo : Nat} {st : St} : om Try.prog cx lo c18_r0 st = reg st.marks (R2 Try.prog lo o18_0 st.env st.H) := res_run (by kernel_rfl)
noncomputable def c18_r1 : Code := regOf Try.f18 1
noncomputable def o18_1 : List O := [⟨some 3, none, true, .mv (.s 0)⟩,
  ⟨some 4, none, true, .bin .eql 24 (.s 3) (.v (.rsl none 0 0 []))⟩]
theorem g18_1 {cx : Ctx} {lo : Nat} {st : St} : om Try.prog cx lo c18_r1 st = reg st.marks (R2 Try.prog lo o18_1 st.env st.H) := res_run (by kernel_rfl)
noncomputable def c18_r2 : Code := regOf Try.f18 2
noncomputable def o18_2 : List O := [⟨some 2, none, true, .mv (.v (.rsl none 0 0 []))⟩]
theorem g18_2 {cx : Ctx} {lo : Nat} {st : St} : om Try.prog cx lo c18_r2 st = reg st.marks (R2 Try.prog lo o18_2 st.env st.H) := res_run (by kernel_rfl)
noncomputable def c18_r3 : Code := regOf Try.f18 3
noncomputable def o18_3 : List O := [⟨some 5, none, true, .bsl 43 8 [] 0 []⟩,
  ⟨some 6, none, true, .mv (.s 0)⟩,
  ⟨some 7, none, false, .raw (.call ⟨.builtin .append, #[(.tmp 5), (.tmp 6)], #[24, 24]⟩)⟩,
  ⟨some 2, none, true, .mv (.s 7)⟩]
theorem g18_3 {cx : Ctx} {lo : Nat} {st : St} : om Try.prog cx lo c18_r3 st = reg st.marks (R2 Try.prog lo o18_3 st.env st.H) := res_run (by kernel_rfl)
noncomputable def c18 : Code := (.seq c18_r0 (.seq (.seq c18_r1 (.cond (.tmp 4) (.seq c18_r2 .ret) .skip)) (.seq c18_r3 .ret)))
theorem c18_body : Try.f18.body = some c18 := by kernel_rfl
theorem c18_in (x0 : AV) (lo : Nat) (H : Heap) : ∃ e : List AV, e.length = 8 ∧ gd e 0 = x0 ∧ callA Try.prog (om Try.prog) lo 18 [x0] H = fin Try.prog (AV.rfL [x0]) [.tmp 2] H (om Try.prog ⟨18, none⟩ (if AV.rfL [x0] then H.next else lo) c18 ⟨e, [], H⟩) := by
  obtain ⟨e, h1, h2, h3⟩ := call_in (P := Try.prog) (lo := lo) (f := 18) (args := [x0]) (H := H) Try.func18 c18_body rfl
  exact ⟨e, h1, h2 0 (by simp), h3⟩
noncomputable def c19_r0 : Code := regOf Try.f19 0
noncomputable def o19_0 : List O := [⟨some 2, none, true, .mv (.v (.rsl none 0 0 []))⟩]
theorem g19_0 {cx : Ctx} {lo : Nat} {st : St} : om Try.prog cx lo c19_r0 st = reg st.marks (R2 Try.prog lo o19_0 st.env st.H) := res_run (by kernel_rfl)
noncomputable def c19_r1 : Code := regOf Try.f19 1
noncomputable def o19_1 : List O := [⟨some 3, none, true, .mv (.s 0)⟩,
  ⟨some 4, none, true, .bin .eql 37 (.s 3) (.v (.rsl none 0 0 []))⟩]
theorem g19_1 {cx : Ctx} {lo : Nat} {st : St} : om Try.prog cx lo c19_r1 st = reg st.marks (R2 Try.prog lo o19_1 st.env st.H) := res_run (by kernel_rfl)
noncomputable def c19_r2 : Code := regOf Try.f19 2
noncomputable def o19_2 : List O := [⟨some 2, none, true, .mv (.v (.rsl none 0 0 []))⟩]
theorem g19_2 {cx : Ctx} {lo : Nat} {st : St} : om Try.prog cx lo c19_r2 st = reg st.marks (R2 Try.prog lo o19_2 st.env st.H) := res_run (by kernel_rfl)
noncomputable def c19_r3 : Code := regOf Try.f19 3
noncomputable def o19_3 : List O := [⟨some 5, none, true, .bsl 5 1 [] 0 []⟩,
  ⟨some 6, none, true, .mv (.s 0)⟩,
  ⟨some 7, none, false, .raw (.call ⟨.builtin .append, #[(.tmp 5), (.tmp 6)], #[37, 37]⟩)⟩,
  ⟨some 2, none, true, .mv (.s 7)⟩]
theorem g19_3 {cx : Ctx} {lo : Nat} {st : St} : om Try.prog cx lo c19_r3 st = reg st.marks (R2 Try.prog lo o19_3 st.env st.H) := res_run (by kernel_rfl)
noncomputable def c19 : Code := (.seq c19_r0 (.seq (.seq c19_r1 (.cond (.tmp 4) (.seq c19_r2 .ret) .skip)) (.seq c19_r3 .ret)))
theorem c19_body : Try.f19.body = some c19 := by kernel_rfl
theorem c19_in (x0 : AV) (lo : Nat) (H : Heap) : ∃ e : List AV, e.length = 8 ∧ gd e 0 = x0 ∧ callA Try.prog (om Try.prog) lo 19 [x0] H = fin Try.prog (AV.rfL [x0]) [.tmp 2] H (om Try.prog ⟨19, none⟩ (if AV.rfL [x0] then H.next else lo) c19 ⟨e, [], H⟩) := by
  obtain ⟨e, h1, h2, h3⟩ := call_in (P := Try.prog) (lo := lo) (f := 19) (args := [x0]) (H := H) Try.func19 c19_body rfl
  exact ⟨e, h1, h2 0 (by simp), h3⟩
noncomputable def c20_r0 : Code := regOf Try.f20 0
noncomputable def o20_0 : List O := [⟨some 2, none, true, .mv (.v (.bool false))⟩]
theorem g20_0 {cx : Ctx} {lo : Nat} {st : St} : om Try.prog cx lo c20_r0 st = reg st.marks (R2 Try.prog lo o20_0 st.env st.H) := res_run (by kernel_rfl)
noncomputable def c20_r1 : Code := regOf Try.f20 1
noncomputable def o20_1 : List O := [⟨some 6, none, true, .mv (.s 0)⟩,
  ⟨some 7, none, false, .lens (.s 6)⟩,
  ⟨some 8, none, true, .bin .lss 3 (.s 7) (.v (.int .i64 1))⟩,
  ⟨some 9, none, true, .mv (.s 8)⟩,
  ⟨some 10, (some (some 9, false)), true, .mv (.s 0)⟩,
  ⟨some 11, (some (some 9, false)), false, .lens (.s 10)⟩,
  ⟨some 12, (some (some 9, false)), true, .bin .gtr 3 (.s 11) (.v (.int .i64 24))⟩,
  ⟨some 13, none, true, .pick (.s 9) (.v (.bool true)) (.s 12)⟩]
theorem g20_1 {cx : Ctx} {lo : Nat} {st : St} : om Try.prog cx lo c20_r1 st = reg st.marks (R2 Try.prog lo o20_1 st.env st.H) := res_run (by kernel_rfl)
noncomputable def c20_r2 : Code := regOf Try.f20 2
noncomputable def o20_2 : List O := [⟨some 2, none, true, .mv (.v (.bool false))⟩]
theorem g20_2 {cx : Ctx} {lo : Nat} {st : St} : om Try.prog cx lo c20_r2 st = reg st.marks (R2 Try.prog lo o20_2 st.env st.H) := res_run (by kernel_rfl)
noncomputable def c20_r3 : Code := regOf Try.f20 3
noncomputable def o20_3 : List O := [⟨some 14, none, true, .mv (.s 0)⟩,
  ⟨some 15, none, false, .lens (.s 14)⟩,
  ⟨some 16, none, true, .mv (.v (.int .i64 0))⟩]
theorem g20_3 {cx : Ctx} {lo : Nat} {st : St} : om Try.prog cx lo c20_r3 st = reg st.marks (R2 Try.prog lo o20_3 st.env st.H) := res_run (by kernel_rfl)
noncomputable def c20_r4 : Code := regOf Try.f20 4
noncomputable def o20_4 : List O := [⟨some 17, none, true, .bin .lss 3 (.s 16) (.s 15)⟩]
theorem g20_4 {cx : Ctx} {lo : Nat} {st : St} : om Try.prog cx lo c20_r4 st = reg st.marks (R2 Try.prog lo o20_4 st.env st.H) := res_run (by kernel_rfl)
noncomputable def c20_r5 : Code := regOf Try.f20 5
noncomputable def o20_5 : List O := [⟨some 18, none, true, .mv (.s 16)⟩,
  ⟨some 3, none, true, .mv (.s 18)⟩]
theorem g20_5 {cx : Ctx} {lo : Nat} {st : St} : om Try.prog cx lo c20_r5 st = reg st.marks (R2 Try.prog lo o20_5 st.env st.H) := res_run (by kernel_rfl)
noncomputable def c20_r6 : Code := regOf Try.f20 6
noncomputable def o20_6 : List O := [⟨some 19, none, true, .mv (.s 0)⟩,
  ⟨some 20, none, true, .mv (.s 3)⟩,
  ⟨some 21, none, true, .six (.s 19) (.s 20)⟩,
  ⟨some 4, none, true, .mv (.s 21)⟩]
theorem g20_6 {cx : Ctx} {lo : Nat} {st : St} : om Try.prog cx lo c20_r6 st = reg st.marks (R2 Try.prog lo o20_6 st.env st.H) := res_run (by kernel_rfl)
noncomputable def c20_r7 : Code := regOf Try.f20 7
noncomputable def o20_7 : List O := [⟨some 22, none, true, .mv (.s 4)⟩,
  ⟨some 23, none, true, .bin .geq 5 (.s 22) (.v (.int .u8 97))⟩,
  ⟨some 24, none, true, .mv (.s 23)⟩,
  ⟨some 25, (some (some 24, true)), true, .mv (.s 4)⟩,
  ⟨some 26, (some (some 24, true)), true, .bin .leq 5 (.s 25) (.v (.int .u8 122))⟩,
  ⟨some 27, none, true, .pick (.s 24) (.s 26) (.v (.bool false))⟩,
  ⟨some 28, none, true, .mv (.s 27)⟩,
  ⟨some 29, (some (some 28, false)), true, .mv (.s 4)⟩,
  ⟨some 30, (some (some 28, false)), true, .bin .geq 5 (.s 29) (.v (.int .u8 65))⟩,
  ⟨some 31, (some (some 28, false)), true, .mv (.s 30)⟩,
  ⟨some 32, (some (some 31, true)), true, .mv (.s 4)⟩,
  ⟨some 33, (some (some 31, true)), true, .bin .leq 5 (.s 32) (.v (.int .u8 90))⟩,
  ⟨some 34, (some (some 28, false)), true, .pick (.s 31) (.s 33) (.v (.bool false))⟩,
  ⟨some 35, none, true, .pick (.s 28) (.v (.bool true)) (.s 34)⟩,
  ⟨some 5, none, true, .mv (.s 35)⟩]
theorem g20_7 {cx : Ctx} {lo : Nat} {st : St} : om Try.prog cx lo c20_r7 st = reg st.marks (R2 Try.prog lo o20_7 st.env st.H) := res_run (by kernel_rfl)
noncomputable def c20_r8 : Code := regOf Try.f20 8
noncomputable def o20_8 : List O := [⟨some 36, none, true, .mv (.s 5)⟩,
  ⟨some 37, none, true, .un .not (.s 36)⟩,
  ⟨some 38, none, true, .mv (.s 37)⟩,
  ⟨some 39, (some (some 38, true)), true, .mv (.s 3)⟩,
  ⟨some 40, (some (some 38, true)), true, .bin .eql 3 (.s 39) (.v (.int .i64 0))⟩,
  ⟨some 41, (some (some 38, true)), true, .mv (.s 40)⟩,
  ⟨some 42, (some (some 41, false)), true, .mv (.s 4)⟩,
  ⟨some 43, (some (some 41, false)), true, .bin .neq 5 (.s 42) (.v (.int .u8 95))⟩,
  ⟨some 44, (some (some 41, false)), true, .mv (.s 43)⟩,
  ⟨some 45, (some (some 44, true)), true, .mv (.s 4)⟩,
  ⟨some 46, (some (some 44, true)), true, .bin .lss 5 (.s 45) (.v (.int .u8 48))⟩,
  ⟨some 47, (some (some 44, true)), true, .mv (.s 46)⟩,
  ⟨some 48, (some (some 47, false)), true, .mv (.s 4)⟩,
  ⟨some 49, (some (some 47, false)), true, .bin .gtr 5 (.s 48) (.v (.int .u8 57))⟩,
  ⟨some 50, (some (some 44, true)), true, .pick (.s 47) (.v (.bool true)) (.s 49)⟩,
  ⟨some 51, (some (some 41, false)), true, .pick (.s 44) (.s 50) (.v (.bool false))⟩,
  ⟨some 52, (some (some 38, true)), true, .pick (.s 41) (.v (.bool true)) (.s 51)⟩,
  ⟨some 53, none, true, .pick (.s 38) (.s 52) (.v (.bool false))⟩]
theorem g20_8 {cx : Ctx} {lo : Nat} {st : St} : om Try.prog cx lo c20_r8 st = reg st.marks (R2 Try.prog lo o20_8 st.env st.H) := res_run (by kernel_rfl)
noncomputable def c20_r9 : Code := regOf Try.f20 9
noncomputable def o20_9 : List O := [⟨some 2, none, true, .mv (.v (.bool false))⟩]
theorem g20_9 {cx : Ctx} {lo : Nat} {st : St} : om Try.prog cx lo c20_r9 st = reg st.marks (R2 Try.prog lo o20_9 st.env st.H) := res_run (by kernel_rfl)
noncomputable def c20_r10 : Code := regOf Try.f20 10
noncomputable def o20_10 : List O := [⟨some 54, none, true, .bin .add 3 (.s 16) (.v (.int .i64 1))⟩,
  ⟨some 16, none, true, .mv (.s 54)⟩]
theorem g20_10 {cx : Ctx} {lo : Nat} {st : St} : om Try.prog cx lo c20_r10 st = reg st.marks (R2 Try.prog lo o20_10 st.env st.H) := res_run (by kernel_rfl)
noncomputable def c20_b0 : Code := (.seq c20_r4 (.seq (.cond (.tmp 17) .skip (.exit 0)) (.seq (.block 1 (.seq c20_r5 (.seq c20_r6 (.seq c20_r7 (.seq c20_r8 (.cond (.tmp 53) (.seq c20_r9 .ret) .skip)))))) c20_r10)))
noncomputable def c20_l0 : Code := .loop c20_b0
noncomputable def c20_r11 : Code := regOf Try.f20 11
noncomputable def o20_11 : List O := [⟨some 2, none, true, .mv (.v (.bool true))⟩]
theorem g20_11 {cx : Ctx} {lo : Nat} {st : St} : om Try.prog cx lo c20_r11 st = reg st.marks (R2 Try.prog lo o20_11 st.env st.H) := res_run (by kernel_rfl)
noncomputable def c20 : Code := (.seq c20_r0 (.seq (.seq c20_r1 (.cond (.tmp 13) (.seq c20_r2 .ret) .skip)) (.seq (.seq c20_r3 (.block 0 c20_l0)) (.seq c20_r11 .ret))))
theorem c20_body : Try.f20.body = some c20 := by kernel_rfl
theorem c20_in (x0 : AV) (lo : Nat) (H : Heap) : ∃ e : List AV, e.length = 55 ∧ gd e 0 = x0 ∧ callA Try.prog (om Try.prog) lo 20 [x0] H = fin Try.prog (AV.rfL [x0]) [.tmp 2] H (om Try.prog ⟨20, none⟩ (if AV.rfL [x0] then H.next else lo) c20 ⟨e, [], H⟩) := by
  obtain ⟨e, h1, h2, h3⟩ := call_in (P := Try.prog) (lo := lo) (f := 20) (args := [x0]) (H := H) Try.func20 c20_body rfl
  exact ⟨e, h1, h2 0 (by simp), h3⟩
noncomputable def c21_r0 : Code := regOf Try.f21 0
noncomputable def o21_0 : List O := [⟨some 4, none, true, .mv (.v (.bool false))⟩]
theorem g21_0 {cx : Ctx} {lo : Nat} {st : St} : om Try.prog cx lo c21_r0 st = reg st.marks (R2 Try.prog lo o21_0 st.env st.H) := res_run (by kernel_rfl)
noncomputable def c21_r1 : Code := regOf Try.f21 1
noncomputable def o21_1 : List O := [⟨some 9, none, true, .raw (.makeMap 66 none)⟩,
  ⟨some 5, none, true, .mv (.s 9)⟩]
theorem g21_1 {cx : Ctx} {lo : Nat} {st : St} : om Try.prog cx lo c21_r1 st = reg st.marks (R2 Try.prog lo o21_1 st.env st.H) := res_run (by kernel_rfl)
noncomputable def c21_r2 : Code := regOf Try.f21 2
noncomputable def o21_2 : List O := [⟨some 10, none, true, .mv (.s 0)⟩,
  ⟨some 11, none, false, .lenl (.s 10)⟩,
  ⟨some 12, none, true, .mv (.v (.int .i64 0))⟩]
theorem g21_2 {cx : Ctx} {lo : Nat} {st : St} : om Try.prog cx lo c21_r2 st = reg st.marks (R2 Try.prog lo o21_2 st.env st.H) := res_run (by kernel_rfl)
noncomputable def c21_r3 : Code := regOf Try.f21 3
noncomputable def o21_3 : List O := [⟨some 13, none, true, .bin .lss 3 (.s 12) (.s 11)⟩]
theorem g21_3 {cx : Ctx} {lo : Nat} {st : St} : om Try.prog cx lo c21_r3 st = reg st.marks (R2 Try.prog lo o21_3 st.env st.H) := res_run (by kernel_rfl)
noncomputable def c21_r4 : Code := regOf Try.f21 4
noncomputable def o21_4 : List O := [⟨some 14, none, true, .ixs 3 (.s 10) (.s 12)⟩,
  ⟨some 15, none, true, .ld (some 3) (.s 14)⟩,
  ⟨some 7, none, true, .new 39 [(.str ByteArray.empty), (.int .i64 0), (.rsl none 0 0 [])]⟩,
  ⟨none, none, false, .st 3 (.s 7) (.s 15)⟩]
theorem g21_4 {cx : Ctx} {lo : Nat} {st : St} : om Try.prog cx lo c21_r4 st = reg st.marks (R2 Try.prog lo o21_4 st.env st.H) := res_run (by kernel_rfl)
noncomputable def c21_r5 : Code := regOf Try.f21 5
noncomputable def o21_5 : List O := [⟨some 16, none, true, .mv (.s 1)⟩,
  ⟨some 17, none, true, .ld (some 3) (.s 7)⟩,
  ⟨some 18, none, false, .callv (.s 16) [(.s 17)]⟩,
  ⟨some 8, none, true, .mv (.s 18)⟩]
theorem g21_5 {cx : Ctx} {lo : Nat} {st : St} : om Try.prog cx lo c21_r5 st = reg st.marks (R2 Try.prog lo o21_5 st.env st.H) := res_run (by kernel_rfl)
noncomputable def c21_r6 : Code := regOf Try.f21 6
noncomputable def o21_6 : List O := [⟨some 19, none, true, .mv (.s 8)⟩,
  ⟨some 20, none, false, .call 20 [(.s 19)]⟩,
  ⟨some 21, none, true, .un .not (.s 20)⟩,
  ⟨some 22, none, true, .mv (.s 21)⟩,
  ⟨some 23, (some (some 22, false)), true, .mv (.s 5)⟩,
  ⟨some 24, (some (some 22, false)), true, .mv (.s 8)⟩,
  ⟨some 25, (some (some 22, false)), true, .raw (.lookup 66 (.tmp 23) (.tmp 24) false)⟩,
  ⟨some 26, none, true, .pick (.s 22) (.v (.bool true)) (.s 25)⟩]
theorem g21_6 {cx : Ctx} {lo : Nat} {st : St} : om Try.prog cx lo c21_r6 st = reg st.marks (R2 Try.prog lo o21_6 st.env st.H) := res_run (by kernel_rfl)
noncomputable def c21_r7 : Code := regOf Try.f21 7
noncomputable def o21_7 : List O := [⟨some 4, none, true, .mv (.v (.bool false))⟩]
theorem g21_7 {cx : Ctx} {lo : Nat} {st : St} : om Try.prog cx lo c21_r7 st = reg st.marks (R2 Try.prog lo o21_7 st.env st.H) := res_run (by kernel_rfl)
noncomputable def c21_r8 : Code := regOf Try.f21 8
noncomputable def o21_8 : List O := [⟨some 27, none, true, .mv (.s 5)⟩,
  ⟨some 28, none, true, .mv (.s 8)⟩,
  ⟨none, none, false, .raw (.mapUpdate 66 (.tmp 27) (.tmp 28) (.const (.bool true)))⟩]
theorem g21_8 {cx : Ctx} {lo : Nat} {st : St} : om Try.prog cx lo c21_r8 st = reg st.marks (R2 Try.prog lo o21_8 st.env st.H) := res_run (by kernel_rfl)
noncomputable def c21_r9 : Code := regOf Try.f21 9
noncomputable def o21_9 : List O := [⟨some 29, none, true, .bin .add 3 (.s 12) (.v (.int .i64 1))⟩,
  ⟨some 12, none, true, .mv (.s 29)⟩]
theorem g21_9 {cx : Ctx} {lo : Nat} {st : St} : om Try.prog cx lo c21_r9 st = reg st.marks (R2 Try.prog lo o21_9 st.env st.H) := res_run (by kernel_rfl)
noncomputable def c21_b0 : Code := (.seq c21_r3 (.seq (.cond (.tmp 13) .skip (.exit 0)) (.seq (.block 1 (.seq c21_r4 (.seq c21_r5 (.seq (.seq c21_r6 (.cond (.tmp 26) (.seq c21_r7 .ret) .skip)) c21_r8)))) c21_r9)))
noncomputable def c21_l0 : Code := .loop c21_b0
noncomputable def c21_r10 : Code := regOf Try.f21 10
noncomputable def o21_10 : List O := [⟨some 4, none, true, .mv (.v (.bool true))⟩]
theorem g21_10 {cx : Ctx} {lo : Nat} {st : St} : om Try.prog cx lo c21_r10 st = reg st.marks (R2 Try.prog lo o21_10 st.env st.H) := res_run (by kernel_rfl)
noncomputable def c21 : Code := (.seq c21_r0 (.seq c21_r1 (.seq (.seq c21_r2 (.block 0 c21_l0)) (.seq c21_r10 .ret))))
theorem c21_body : Try.f21.body = some c21 := by kernel_rfl
theorem c21_in (x0 x1 : AV) (lo : Nat) (H : Heap) : ∃ e : List AV, e.length = 30 ∧ gd e 0 = x0 ∧ gd e 1 = x1 ∧ callA Try.prog (om Try.prog) lo 21 [x0, x1] H = fin Try.prog (AV.rfL [x0, x1]) [.tmp 4] H (om Try.prog ⟨21, none⟩ (if AV.rfL [x0, x1] then H.next else lo) c21 ⟨e, [], H⟩) := by
  obtain ⟨e, h1, h2, h3⟩ := call_in (P := Try.prog) (lo := lo) (f := 21) (args := [x0, x1]) (H := H) Try.func21 c21_body rfl
  exact ⟨e, h1, h2 0 (by simp), h2 1 (by simp), h3⟩
noncomputable def c22_r0 : Code := regOf Try.f22 0
noncomputable def o22_0 : List O := [⟨some 1, none, true, .box 39 3 (.s 0)⟩,
  ⟨some 2, none, true, .mv (.v (.str ByteArray.empty))⟩]
theorem g22_0 {cx : Ctx} {lo : Nat} {st : St} : om Try.prog cx lo c22_r0 st = reg st.marks (R2 Try.prog lo o22_0 st.env st.H) := res_run (by kernel_rfl)
noncomputable def c22_r1 : Code := regOf Try.f22 1
noncomputable def o22_1 : List O := [⟨some 3, none, true, .fa 0 (.s 1)⟩,
  ⟨some 4, none, true, .ld none (.s 3)⟩,
  ⟨some 2, none, true, .mv (.s 4)⟩]
theorem g22_1 {cx : Ctx} {lo : Nat} {st : St} : om Try.prog cx lo c22_r1 st = reg st.marks (R2 Try.prog lo o22_1 st.env st.H) := res_run (by kernel_rfl)
noncomputable def c22 : Code := (.seq c22_r0 (.seq c22_r1 .ret))
theorem c22_body : Try.f22.body = some c22 := by kernel_rfl
theorem c22_in (x0 : AV) (lo : Nat) (H : Heap) : ∃ e : List AV, e.length = 5 ∧ gd e 0 = x0 ∧ callA Try.prog (om Try.prog) lo 22 [x0] H = fin Try.prog (AV.rfL [x0]) [.tmp 2] H (om Try.prog ⟨22, none⟩ (if AV.rfL [x0] then H.next else lo) c22 ⟨e, [], H⟩) := by
  obtain ⟨e, h1, h2, h3⟩ := call_in (P := Try.prog) (lo := lo) (f := 22) (args := [x0]) (H := H) Try.func22 c22_body rfl
  exact ⟨e, h1, h2 0 (by simp), h3⟩
noncomputable def c23_r0 : Code := regOf Try.f23 0
noncomputable def o23_0 : List O := [⟨some 4, none, true, .mv (.v (.bool false))⟩]
theorem g23_0 {cx : Ctx} {lo : Nat} {st : St} : om Try.prog cx lo c23_r0 st = reg st.marks (R2 Try.prog lo o23_0 st.env st.H) := res_run (by kernel_rfl)
noncomputable def c23_r1 : Code := regOf Try.f23 1
noncomputable def o23_1 : List O := [⟨some 9, none, true, .raw (.makeMap 66 none)⟩,
  ⟨some 5, none, true, .mv (.s 9)⟩]
theorem g23_1 {cx : Ctx} {lo : Nat} {st : St} : om Try.prog cx lo c23_r1 st = reg st.marks (R2 Try.prog lo o23_1 st.env st.H) := res_run (by kernel_rfl)
noncomputable def c23_r2 : Code := regOf Try.f23 2
noncomputable def o23_2 : List O := [⟨some 10, none, true, .mv (.s 0)⟩,
  ⟨some 11, none, false, .lenl (.s 10)⟩,
  ⟨some 12, none, true, .mv (.v (.int .i64 0))⟩]
theorem g23_2 {cx : Ctx} {lo : Nat} {st : St} : om Try.prog cx lo c23_r2 st = reg st.marks (R2 Try.prog lo o23_2 st.env st.H) := res_run (by kernel_rfl)
noncomputable def c23_r3 : Code := regOf Try.f23 3
noncomputable def o23_3 : List O := [⟨some 13, none, true, .bin .lss 3 (.s 12) (.s 11)⟩]
theorem g23_3 {cx : Ctx} {lo : Nat} {st : St} : om Try.prog cx lo c23_r3 st = reg st.marks (R2 Try.prog lo o23_3 st.env st.H) := res_run (by kernel_rfl)
noncomputable def c23_r4 : Code := regOf Try.f23 4
noncomputable def o23_4 : List O := [⟨some 14, none, true, .ixs 3 (.s 10) (.s 12)⟩,
  ⟨some 15, none, true, .ld (some 3) (.s 14)⟩,
  ⟨some 7, none, true, .new 41 [(.str ByteArray.empty), (.int .i64 0), (.int .i64 0)]⟩,
  ⟨none, none, false, .st 3 (.s 7) (.s 15)⟩]
theorem g23_4 {cx : Ctx} {lo : Nat} {st : St} : om Try.prog cx lo c23_r4 st = reg st.marks (R2 Try.prog lo o23_4 st.env st.H) := res_run (by kernel_rfl)
noncomputable def c23_r5 : Code := regOf Try.f23 5
noncomputable def o23_5 : List O := [⟨some 16, none, true, .mv (.s 1)⟩,
  ⟨some 17, none, true, .ld (some 3) (.s 7)⟩,
  ⟨some 18, none, false, .callv (.s 16) [(.s 17)]⟩,
  ⟨some 8, none, true, .mv (.s 18)⟩]
theorem g23_5 {cx : Ctx} {lo : Nat} {st : St} : om Try.prog cx lo c23_r5 st = reg st.marks (R2 Try.prog lo o23_5 st.env st.H) := res_run (by kernel_rfl)
noncomputable def c23_r6 : Code := regOf Try.f23 6
noncomputable def o23_6 : List O := [⟨some 19, none, true, .mv (.s 8)⟩,
  ⟨some 20, none, false, .call 20 [(.s 19)]⟩,
  ⟨some 21, none, true, .un .not (.s 20)⟩,
  ⟨some 22, none, true, .mv (.s 21)⟩,
  ⟨some 23, (some (some 22, false)), true, .mv (.s 5)⟩,
  ⟨some 24, (some (some 22, false)), true, .mv (.s 8)⟩,
  ⟨some 25, (some (some 22, false)), true, .raw (.lookup 66 (.tmp 23) (.tmp 24) false)⟩,
  ⟨some 26, none, true, .pick (.s 22) (.v (.bool true)) (.s 25)⟩]
theorem g23_6 {cx : Ctx} {lo : Nat} {st : St} : om Try.prog cx lo c23_r6 st = reg st.marks (R2 Try.prog lo o23_6 st.env st.H) := res_run (by kernel_rfl)
noncomputable def c23_r7 : Code := regOf Try.f23 7
noncomputable def o23_7 : List O := [⟨some 4, none, true, .mv (.v (.bool false))⟩]
theorem g23_7 {cx : Ctx} {lo : Nat} {st : St} : om Try.prog cx lo c23_r7 st = reg st.marks (R2 Try.prog lo o23_7 st.env st.H) := res_run (by kernel_rfl)
noncomputable def c23_r8 : Code := regOf Try.f23 8
noncomputable def o23_8 : List O := [⟨some 27, none, true, .mv (.s 5)⟩,
  ⟨some 28, none, true, .mv (.s 8)⟩,
  ⟨none, none, false, .raw (.mapUpdate 66 (.tmp 27) (.tmp 28) (.const (.bool true)))⟩]
theorem g23_8 {cx : Ctx} {lo : Nat} {st : St} : om Try.prog cx lo c23_r8 st = reg st.marks (R2 Try.prog lo o23_8 st.env st.H) := res_run (by kernel_rfl)
noncomputable def c23_r9 : Code := regOf Try.f23 9
noncomputable def o23_9 : List O := [⟨some 29, none, true, .bin .add 3 (.s 12) (.v (.int .i64 1))⟩,
  ⟨some 12, none, true, .mv (.s 29)⟩]
theorem g23_9 {cx : Ctx} {lo : Nat} {st : St} : om Try.prog cx lo c23_r9 st = reg st.marks (R2 Try.prog lo o23_9 st.env st.H) := res_run (by kernel_rfl)
noncomputable def c23_b0 : Code := (.seq c23_r3 (.seq (.cond (.tmp 13) .skip (.exit 0)) (.seq (.block 1 (.seq c23_r4 (.seq c23_r5 (.seq (.seq c23_r6 (.cond (.tmp 26) (.seq c23_r7 .ret) .skip)) c23_r8)))) c23_r9)))
noncomputable def c23_l0 : Code := .loop c23_b0
noncomputable def c23_r10 : Code := regOf Try.f23 10
noncomputable def o23_10 : List O := [⟨some 4, none, true, .mv (.v (.bool true))⟩]
theorem g23_10 {cx : Ctx} {lo : Nat} {st : St} : om Try.prog cx lo c23_r10 st = reg st.marks (R2 Try.prog lo o23_10 st.env st.H) := res_run (by kernel_rfl)
noncomputable def c23 : Code := (.seq c23_r0 (.seq c23_r1 (.seq (.seq c23_r2 (.block 0 c23_l0)) (.seq c23_r10 .ret))))
theorem c23_body : Try.f23.body = some c23 := by kernel_rfl
theorem c23_in (x0 x1 : AV) (lo : Nat) (H : Heap) : ∃ e : List AV, e.length = 30 ∧ gd e 0 = x0 ∧ gd e 1 = x1 ∧ callA Try.prog (om Try.prog) lo 23 [x0, x1] H = fin Try.prog (AV.rfL [x0, x1]) [.tmp 4] H (om Try.prog ⟨23, none⟩ (if AV.rfL [x0, x1] then H.next else lo) c23 ⟨e, [], H⟩) := by
  obtain ⟨e, h1, h2, h3⟩ := call_in (P := Try.prog) (lo := lo) (f := 23) (args := [x0, x1]) (H := H) Try.func23 c23_body rfl
  exact ⟨e, h1, h2 0 (by simp), h2 1 (by simp), h3⟩
noncomputable def c24_r0 : Code := regOf Try.f24 0
noncomputable def o24_0 : List O := [⟨some 1, none, true, .box 41 3 (.s 0)⟩,
  ⟨some 2, none, true, .mv (.v (.str ByteArray.empty))⟩]
theorem g24_0 {cx : Ctx} {lo : Nat} {st : St} : om Try.prog cx lo c24_r0 st = reg st.marks (R2 Try.prog lo o24_0 st.env st.H) := res_run (by kernel_rfl)
noncomputable def c24_r1 : Code := regOf Try.f24 1
noncomputable def o24_1 : List O := [⟨some 3, none, true, .fa 0 (.s 1)⟩,
  ⟨some 4, none, true, .ld none (.s 3)⟩,
  ⟨some 2, none, true, .mv (.s 4)⟩]
theorem g24_1 {cx : Ctx} {lo : Nat} {st : St} : om Try.prog cx lo c24_r1 st = reg st.marks (R2 Try.prog lo o24_1 st.env st.H) := res_run (by kernel_rfl)
noncomputable def c24 : Code := (.seq c24_r0 (.seq c24_r1 .ret))
theorem c24_body : Try.f24.body = some c24 := by kernel_rfl
theorem c24_in (x0 : AV) (lo : Nat) (H : Heap) : ∃ e : List AV, e.length = 5 ∧ gd e 0 = x0 ∧ callA Try.prog (om Try.prog) lo 24 [x0] H = fin Try.prog (AV.rfL [x0]) [.tmp 2] H (om Try.prog ⟨24, none⟩ (if AV.rfL [x0] then H.next else lo) c24 ⟨e, [], H⟩) := by
  obtain ⟨e, h1, h2, h3⟩ := call_in (P := Try.prog) (lo := lo) (f := 24) (args := [x0]) (H := H) Try.func24 c24_body rfl
  exact ⟨e, h1, h2 0 (by simp), h3⟩
noncomputable def c25_r0 : Code := regOf Try.f25 0
noncomputable def o25_0 : List O := [⟨some 6, none, true, .mv (.v (.bool false))⟩]
theorem g25_0 {cx : Ctx} {lo : Nat} {st : St} : om Try.prog cx lo c25_r0 st = reg st.marks (R2 Try.prog lo o25_0 st.env st.H) := res_run (by kernel_rfl)
noncomputable def c25_r1 : Code := regOf Try.f25 1
noncomputable def o25_1 : List O := [⟨some 7, none, true, .mv (.s 1)⟩,
  ⟨some 8, none, true, .mv (.s 0)⟩,
  ⟨some 9, none, true, .bin .leq 3 (.s 7) (.s 8)⟩,
  ⟨some 10, none, true, .mv (.s 9)⟩,
  ⟨some 11, (some (some 10, true)), true, .mv (.s 0)⟩,
  ⟨some 12, (some (some 10, true)), true, .mv (.s 2)⟩,
  ⟨some 13, (some (some 10, true)), true, .bin .leq 3 (.s 11) (.s 12)⟩,
  ⟨some 14, none, true, .pick (.s 10) (.s 13) (.v (.bool false))⟩,
  ⟨some 6, none, true, .mv (.s 14)⟩]
theorem g25_1 {cx : Ctx} {lo : Nat} {st : St} : om Try.prog cx lo c25_r1 st = reg st.marks (R2 Try.prog lo o25_1 st.env st.H) := res_run (by kernel_rfl)
noncomputable def c25 : Code := (.seq c25_r0 (.seq c25_r1 .ret))
theorem c25_body : Try.f25.body = some c25 := by kernel_rfl
theorem c25_in (x0 x1 x2 : AV) (lo : Nat) (H : Heap) : ∃ e : List AV, e.length = 15 ∧ gd e 0 = x0 ∧ gd e 1 = x1 ∧ gd e 2 = x2 ∧ callA Try.prog (om Try.prog) lo 25 [x0, x1, x2] H = fin Try.prog (AV.rfL [x0, x1, x2]) [.tmp 6] H (om Try.prog ⟨25, none⟩ (if AV.rfL [x0, x1, x2] then H.next else lo) c25 ⟨e, [], H⟩) := by
  obtain ⟨e, h1, h2, h3⟩ := call_in (P := Try.prog) (lo := lo) (f := 25) (args := [x0, x1, x2]) (H := H) Try.func25 c25_body rfl
  exact ⟨e, h1, h2 0 (by simp), h2 1 (by simp), h2 2 (by simp), h3⟩
noncomputable def c26_r0 : Code := regOf Try.f26 0
noncomputable def o26_0 : List O := [⟨some 2, none, true, .box 26 4 (.s 0)⟩,
  ⟨some 4, none, true, .mv (.v (.int .i64 0))⟩]
theorem g26_0 {cx : Ctx} {lo : Nat} {st : St} : om Try.prog cx lo c26_r0 st = reg st.marks (R2 Try.prog lo o26_0 st.env st.H) := res_run (by kernel_rfl)
noncomputable def c26_r1 : Code := regOf Try.f26 1
noncomputable def o26_1 : List O := [⟨some 5, none, true, .mv (.s 1)⟩,
  ⟨some 6, none, true, .fa 1 (.s 2)⟩,
  ⟨some 7, none, true, .ld none (.s 6)⟩,
  ⟨some 8, none, false, .lenl (.s 7)⟩,
  ⟨some 9, none, true, .bin .sub 3 (.s 8) (.v (.int .i64 1))⟩,
  ⟨some 10, none, false, .call 25 [(.s 5), (.v (.int .i64 0)), (.s 9)]⟩,
  ⟨some 11, none, true, .un .not (.s 10)⟩]
theorem g26_1 {cx : Ctx} {lo : Nat} {st : St} : om Try.prog cx lo c26_r1 st = reg st.marks (R2 Try.prog lo o26_1 st.env st.H) := res_run (by kernel_rfl)
noncomputable def c26_r2 : Code := regOf Try.f26 2
noncomputable def o26_2 : List O := [⟨some 4, none, true, .mv (.v (.int .i64 (-1)))⟩]
theorem g26_2 {cx : Ctx} {lo : Nat} {st : St} : om Try.prog cx lo c26_r2 st = reg st.marks (R2 Try.prog lo o26_2 st.env st.H) := res_run (by kernel_rfl)
noncomputable def c26_r3 : Code := regOf Try.f26 3
noncomputable def o26_3 : List O := [⟨some 12, none, true, .fa 1 (.s 2)⟩,
  ⟨some 13, none, true, .ld none (.s 12)⟩,
  ⟨some 14, none, true, .mv (.s 1)⟩,
  ⟨some 15, none, true, .ixs 3 (.s 13) (.s 14)⟩,
  ⟨some 16, none, true, .fa 2 (.s 15)⟩,
  ⟨some 17, none, true, .ld none (.s 16)⟩,
  ⟨some 18, none, false, .lenl (.s 17)⟩,
  ⟨some 4, none, true, .mv (.s 18)⟩]
theorem g26_3 {cx : Ctx} {lo : Nat} {st : St} : om Try.prog cx lo c26_r3 st = reg st.marks (R2 Try.prog lo o26_3 st.env st.H) := res_run (by kernel_rfl)
noncomputable def c26 : Code := (.seq c26_r0 (.seq (.seq c26_r1 (.cond (.tmp 11) (.seq c26_r2 .ret) .skip)) (.seq c26_r3 .ret)))
theorem c26_body : Try.f26.body = some c26 := by kernel_rfl
theorem c26_in (x0 x1 : AV) (lo : Nat) (H : Heap) : ∃ e : List AV, e.length = 19 ∧ gd e 0 = x0 ∧ gd e 1 = x1 ∧ callA Try.prog (om Try.prog) lo 26 [x0, x1] H = fin Try.prog (AV.rfL [x0, x1]) [.tmp 4] H (om Try.prog ⟨26, none⟩ (if AV.rfL [x0, x1] then H.next else lo) c26 ⟨e, [], H⟩) := by
  obtain ⟨e, h1, h2, h3⟩ := call_in (P := Try.prog) (lo := lo) (f := 26) (args := [x0, x1]) (H := H) Try.func26 c26_body rfl
  exact ⟨e, h1, h2 0 (by simp), h2 1 (by simp), h3⟩
noncomputable def c27_r0 : Code := regOf Try.f27 0
noncomputable def o27_0 : List O := [⟨some 2, none, true, .box 43 8 (.s 0)⟩,
  ⟨some 3, none, true, .box 43 8 (.s 1)⟩,
  ⟨some 4, none, true, .mv (.v (.int .i64 0))⟩]
theorem g27_0 {cx : Ctx} {lo : Nat} {st : St} : om Try.prog cx lo c27_r0 st = reg st.marks (R2 Try.prog lo o27_0 st.env st.H) := res_run (by kernel_rfl)
noncomputable def c27_r1 : Code := regOf Try.f27 1
noncomputable def o27_1a : List O := [⟨some 5, none, true, .fa 0 (.s 2)⟩,
  ⟨some 6, none, true, .ld none (.s 5)⟩,
  ⟨some 7, none, true, .fa 0 (.s 3)⟩,
  ⟨some 8, none, true, .ld none (.s 7)⟩,
  ⟨some 9, none, false, .call 38 [(.s 6), (.s 8)]⟩,
  ⟨some 10, none, true, .fa 1 (.s 2)⟩,
  ⟨some 11, none, true, .ld none (.s 10)⟩,
  ⟨some 12, none, true, .fa 1 (.s 3)⟩,
  ⟨some 13, none, true, .ld none (.s 12)⟩,
  ⟨some 14, none, false, .call 38 [(.s 11), (.s 13)]⟩,
  ⟨some 15, none, true, .fa 6 (.s 2)⟩,
  ⟨some 16, none, true, .ld none (.s 15)⟩,
  ⟨some 17, none, true, .fa 6 (.s 3)⟩,
  ⟨some 18, none, true, .ld none (.s 17)⟩]
noncomputable def o27_1b : List O := [⟨some 19, none, false, .call 38 [(.s 16), (.s 18)]⟩,
  ⟨some 20, none, true, .bsl 3 1 [(.int .i64 0), (.int .i64 0), (.int .i64 0)] 3 [(0, (.s 9)), (1, (.s 14)), (2, (.s 19))]⟩,
  ⟨some 21, none, false, .call 37 [(.s 20)]⟩,
  ⟨some 4, none, true, .mv (.s 21)⟩]
theorem g27_1 {rnd : Option Nat} {lo : Nat} {st : St} : om Try.prog ⟨27, rnd⟩ lo c27_r1 st = reg st.marks (dre (stl (S2 Try.prog o27_1a st.env st.H) (K4 Try.prog lo o27_1b)) (Fb Try.prog lo c27_r1 st.env st.H)) := resD_run (by kernel_rfl) rfl
noncomputable def c27 : Code := (.seq c27_r0 (.seq c27_r1 .ret))
theorem c27_body : Try.f27.body = some c27 := by kernel_rfl
theorem c27_in (x0 x1 : AV) (lo : Nat) (H : Heap) : ∃ e : List AV, e.length = 22 ∧ gd e 0 = x0 ∧ gd e 1 = x1 ∧ callA Try.prog (om Try.prog) lo 27 [x0, x1] H = fin Try.prog (AV.rfL [x0, x1]) [.tmp 4] H (om Try.prog ⟨27, none⟩ (if AV.rfL [x0, x1] then H.next else lo) c27 ⟨e, [], H⟩) := by
  obtain ⟨e, h1, h2, h3⟩ := call_in (P := Try.prog) (lo := lo) (f := 27) (args := [x0, x1]) (H := H) Try.func27 c27_body rfl
  exact ⟨e, h1, h2 0 (by simp), h2 1 (by simp), h3⟩
noncomputable def c28_r0 : Code := regOf Try.f28 0
noncomputable def o28_0 : List O := [⟨some 4, none, true, .mv (.v (.bool false))⟩]
theorem g28_0 {cx : Ctx} {lo : Nat} {st : St} : om Try.prog cx lo c28_r0 st = reg st.marks (R2 Try.prog lo o28_0 st.env st.H) := res_run (by kernel_rfl)
noncomputable def c28_r1 : Code := regOf Try.f28 1
noncomputable def o28_1 : List O := [⟨some 6, none, true, .mv (.s 0)⟩,
  ⟨some 7, none, false, .lenl (.s 6)⟩,
  ⟨some 8, none, true, .mv (.s 1)⟩,
  ⟨some 9, none, false, .lenl (.s 8)⟩,
  ⟨some 10, none, true, .bin .neq 3 (.s 7) (.s 9)⟩]
theorem g28_1 {cx : Ctx} {lo : Nat} {st : St} : om Try.prog cx lo c28_r1 st = reg st.marks (R2 Try.prog lo o28_1 st.env st.H) := res_run (by kernel_rfl)
noncomputable def c28_r2 : Code := regOf Try.f28 2
noncomputable def o28_2 : List O := [⟨some 4, none, true, .mv (.v (.bool false))⟩]
theorem g28_2 {cx : Ctx} {lo : Nat} {st : St} : om Try.prog cx lo c28_r2 st = reg st.marks (R2 Try.prog lo o28_2 st.env st.H) := res_run (by kernel_rfl)
noncomputable def c28_r3 : Code := regOf Try.f28 3
noncomputable def o28_3 : List O := [⟨some 11, none, true, .mv (.s 0)⟩,
  ⟨some 12, none, false, .lenl (.s 11)⟩,
  ⟨some 13, none, true, .mv (.v (.int .i64 0))⟩]
theorem g28_3 {cx : Ctx} {lo : Nat} {st : St} : om Try.prog cx lo c28_r3 st = reg st.marks (R2 Try.prog lo o28_3 st.env st.H) := res_run (by kernel_rfl)
noncomputable def c28_r4 : Code := regOf Try.f28 4
noncomputable def o28_4 : List O := [⟨some 14, none, true, .bin .lss 3 (.s 13) (.s 12)⟩]
theorem g28_4 {cx : Ctx} {lo : Nat} {st : St} : om Try.prog cx lo c28_r4 st = reg st.marks (R2 Try.prog lo o28_4 st.env st.H) := res_run (by kernel_rfl)
noncomputable def c28_r5 : Code := regOf Try.f28 5
noncomputable def o28_5 : List O := [⟨some 15, none, true, .mv (.s 13)⟩,
  ⟨some 5, none, true, .mv (.s 15)⟩]
theorem g28_5 {cx : Ctx} {lo : Nat} {st : St} : om Try.prog cx lo c28_r5 st = reg st.marks (R2 Try.prog lo o28_5 st.env st.H) := res_run (by kernel_rfl)
noncomputable def c28_r6 : Code := regOf Try.f28 6
noncomputable def o28_6a : List O := [⟨some 16, none, true, .mv (.s 0)⟩,
  ⟨some 17, none, true, .mv (.s 5)⟩,
  ⟨some 18, none, true, .ixs 3 (.s 16) (.s 17)⟩,
  ⟨some 19, none, true, .ld (some 3) (.s 18)⟩,
  ⟨some 20, none, true, .mv (.s 1)⟩,
  ⟨some 21, none, true, .mv (.s 5)⟩,
  ⟨some 22, none, true, .ixs 3 (.s 20) (.s 21)⟩,
  ⟨some 23, none, true, .ld (some 3) (.s 22)⟩]
noncomputable def o28_6b : List O := [⟨some 24, none, true, .bin .neq 41 (.s 19) (.s 23)⟩]
theorem g28_6 {rnd : Option Nat} {lo : Nat} {st : St} : om Try.prog ⟨28, rnd⟩ lo c28_r6 st = reg st.marks (dre (stl (S2 Try.prog o28_6a st.env st.H) (K4 Try.prog lo o28_6b)) (Fb Try.prog lo c28_r6 st.env st.H)) := resD_run (by kernel_rfl) rfl
noncomputable def c28_r7 : Code := regOf Try.f28 7
noncomputable def o28_7 : List O := [⟨some 4, none, true, .mv (.v (.bool false))⟩]
theorem g28_7 {cx : Ctx} {lo : Nat} {st : St} : om Try.prog cx lo c28_r7 st = reg st.marks (R2 Try.prog lo o28_7 st.env st.H) := res_run (by kernel_rfl)
noncomputable def c28_r8 : Code := regOf Try.f28 8
noncomputable def o28_8 : List O := [⟨some 25, none, true, .bin .add 3 (.s 13) (.v (.int .i64 1))⟩,
  ⟨some 13, none, true, .mv (.s 25)⟩]
theorem g28_8 {cx : Ctx} {lo : Nat} {st : St} : om Try.prog cx lo c28_r8 st = reg st.marks (R2 Try.prog lo o28_8 st.env st.H) := res_run (by kernel_rfl)
noncomputable def c28_b0 : Code := (.seq c28_r4 (.seq (.cond (.tmp 14) .skip (.exit 0)) (.seq (.block 1 (.seq c28_r5 (.seq c28_r6 (.cond (.tmp 24) (.seq c28_r7 .ret) .skip)))) c28_r8)))
noncomputable def c28_l0 : Code := .loop c28_b0
noncomputable def c28_r9 : Code := regOf Try.f28 9
noncomputable def o28_9 : List O := [⟨some 4, none, true, .mv (.v (.bool true))⟩]
theorem g28_9 {cx : Ctx} {lo : Nat} {st : St} : om Try.prog cx lo c28_r9 st = reg st.marks (R2 Try.prog lo o28_9 st.env st.H) := res_run (by kernel_rfl)
noncomputable def c28 : Code := (.seq c28_r0 (.seq (.seq c28_r1 (.cond (.tmp 10) (.seq c28_r2 .ret) .skip)) (.seq (.seq c28_r3 (.block 0 c28_l0)) (.seq c28_r9 .ret))))
theorem c28_body : Try.f28.body = some c28 := by kernel_rfl
theorem c28_in (x0 x1 : AV) (lo : Nat) (H : Heap) : ∃ e : List AV, e.length = 26 ∧ gd e 0 = x0 ∧ gd e 1 = x1 ∧ callA Try.prog (om Try.prog) lo 28 [x0, x1] H = fin Try.prog (AV.rfL [x0, x1]) [.tmp 4] H (om Try.prog ⟨28, none⟩ (if AV.rfL [x0, x1] then H.next else lo) c28 ⟨e, [], H⟩) := by
  obtain ⟨e, h1, h2, h3⟩ := call_in (P := Try.prog) (lo := lo) (f := 28) (args := [x0, x1]) (H := H) Try.func28 c28_body rfl
  exact ⟨e, h1, h2 0 (by simp), h2 1 (by simp), h3⟩
noncomputable def c29_r0 : Code := regOf Try.f29 0
noncomputable def o29_0 : List O := [⟨some 4, none, true, .mv (.v (.bool false))⟩]
theorem g29_0 {cx : Ctx} {lo : Nat} {st : St} : om Try.prog cx lo c29_r0 st = reg st.marks (R2 Try.prog lo o29_0 st.env st.H) := res_run (by kernel_rfl)
noncomputable def c29_r1 : Code := regOf Try.f29 1
noncomputable def o29_1 : List O := [⟨some 6, none, true, .mv (.s 0)⟩,
  ⟨some 7, none, false, .lenl (.s 6)⟩,
  ⟨some 8, none, true, .mv (.s 1)⟩,
  ⟨some 9, none, false, .lenl (.s 8)⟩,
  ⟨some 10, none, true, .bin .neq 3 (.s 7) (.s 9)⟩]
theorem g29_1 {cx : Ctx} {lo : Nat} {st : St} : om Try.prog cx lo c29_r1 st = reg st.marks (R2 Try.prog lo o29_1 st.env st.H) := res_run (by kernel_rfl)
noncomputable def c29_r2 : Code := regOf Try.f29 2
noncomputable def o29_2 : List O := [⟨some 4, none, true, .mv (.v (.bool false))⟩]
theorem g29_2 {cx : Ctx} {lo : Nat} {st : St} : om Try.prog cx lo c29_r2 st = reg st.marks (R2 Try.prog lo o29_2 st.env st.H) := res_run (by kernel_rfl)
noncomputable def c29_r3 : Code := regOf Try.f29 3
noncomputable def o29_3 : List O := [⟨some 11, none, true, .mv (.s 0)⟩,
  ⟨some 12, none, false, .lenl (.s 11)⟩,
  ⟨some 13, none, true, .mv (.v (.int .i64 0))⟩]
theorem g29_3 {cx : Ctx} {lo : Nat} {st : St} : om Try.prog cx lo c29_r3 st = reg st.marks (R2 Try.prog lo o29_3 st.env st.H) := res_run (by kernel_rfl)
noncomputable def c29_r4 : Code := regOf Try.f29 4
noncomputable def o29_4 : List O := [⟨some 14, none, true, .bin .lss 3 (.s 13) (.s 12)⟩]
theorem g29_4 {cx : Ctx} {lo : Nat} {st : St} : om Try.prog cx lo c29_r4 st = reg st.marks (R2 Try.prog lo o29_4 st.env st.H) := res_run (by kernel_rfl)
noncomputable def c29_r5 : Code := regOf Try.f29 5
noncomputable def o29_5 : List O := [⟨some 15, none, true, .mv (.s 13)⟩,
  ⟨some 5, none, true, .mv (.s 15)⟩]
theorem g29_5 {cx : Ctx} {lo : Nat} {st : St} : om Try.prog cx lo c29_r5 st = reg st.marks (R2 Try.prog lo o29_5 st.env st.H) := res_run (by kernel_rfl)
noncomputable def c29_r6 : Code := regOf Try.f29 6
noncomputable def o29_6a : List O := [⟨some 16, none, true, .mv (.s 0)⟩,
  ⟨some 17, none, true, .mv (.s 5)⟩,
  ⟨some 18, none, true, .ixs 8 (.s 16) (.s 17)⟩,
  ⟨some 19, none, true, .ld (some 8) (.s 18)⟩,
  ⟨some 20, none, true, .mv (.s 1)⟩,
  ⟨some 21, none, true, .mv (.s 5)⟩,
  ⟨some 22, none, true, .ixs 8 (.s 20) (.s 21)⟩,
  ⟨some 23, none, true, .ld (some 8) (.s 22)⟩]
noncomputable def o29_6b : List O := [⟨some 24, none, true, .bin .neq 43 (.s 19) (.s 23)⟩]
theorem g29_6 {rnd : Option Nat} {lo : Nat} {st : St} : om Try.prog ⟨29, rnd⟩ lo c29_r6 st = reg st.marks (dre (stl (S2 Try.prog o29_6a st.env st.H) (K4 Try.prog lo o29_6b)) (Fb Try.prog lo c29_r6 st.env st.H)) := resD_run (by kernel_rfl) rfl
noncomputable def c29_r7 : Code := regOf Try.f29 7
noncomputable def o29_7 : List O := [⟨some 4, none, true, .mv (.v (.bool false))⟩]
theorem g29_7 {cx : Ctx} {lo : Nat} {st : St} : om Try.prog cx lo c29_r7 st = reg st.marks (R2 Try.prog lo o29_7 st.env st.H) := res_run (by kernel_rfl)
noncomputable def c29_r8 : Code := regOf Try.f29 8
noncomputable def o29_8 : List O := [⟨some 25, none, true, .bin .add 3 (.s 13) (.v (.int .i64 1))⟩,
  ⟨some 13, none, true, .mv (.s 25)⟩]
theorem g29_8 {cx : Ctx} {lo : Nat} {st : St} : om Try.prog cx lo c29_r8 st = reg st.marks (R2 Try.prog lo o29_8 st.env st.H) := res_run (by kernel_rfl)
noncomputable def c29_b0 : Code := (.seq c29_r4 (.seq (.cond (.tmp 14) .skip (.exit 0)) (.seq (.block 1 (.seq c29_r5 (.seq c29_r6 (.cond (.tmp 24) (.seq c29_r7 .ret) .skip)))) c29_r8)))
noncomputable def c29_l0 : Code := .loop c29_b0
noncomputable def c29_r9 : Code := regOf Try.f29 9
noncomputable def o29_9 : List O := [⟨some 4, none, true, .mv (.v (.bool true))⟩]
theorem g29_9 {cx : Ctx} {lo : Nat} {st : St} : om Try.prog cx lo c29_r9 st = reg st.marks (R2 Try.prog lo o29_9 st.env st.H) := res_run (by kernel_rfl)
noncomputable def c29 : Code := (.seq c29_r0 (.seq (.seq c29_r1 (.cond (.tmp 10) (.seq c29_r2 .ret) .skip)) (.seq (.seq c29_r3 (.block 0 c29_l0)) (.seq c29_r9 .ret))))
theorem c29_body : Try.f29.body = some c29 := by kernel_rfl
theorem c29_in (x0 x1 : AV) (lo : Nat) (H : Heap) : ∃ e : List AV, e.length = 26 ∧ gd e 0 = x0 ∧ gd e 1 = x1 ∧ callA Try.prog (om Try.prog) lo 29 [x0, x1] H = fin Try.prog (AV.rfL [x0, x1]) [.tmp 4] H (om Try.prog ⟨29, none⟩ (if AV.rfL [x0, x1] then H.next else lo) c29 ⟨e, [], H⟩) := by
  obtain ⟨e, h1, h2, h3⟩ := call_in (P := Try.prog) (lo := lo) (f := 29) (args := [x0, x1]) (H := H) Try.func29 c29_body rfl
  exact ⟨e, h1, h2 0 (by simp), h2 1 (by simp), h3⟩
noncomputable def c30_r0 : Code := regOf Try.f30 0
noncomputable def o30_0 : List O := [⟨some 6, none, true, .mv (.v (.bool false))⟩]
theorem g30_0 {cx : Ctx} {lo : Nat} {st : St} : om Try.prog cx lo c30_r0 st = reg st.marks (R2 Try.prog lo o30_0 st.env st.H) := res_run (by kernel_rfl)
noncomputable def c30_r1 : Code := regOf Try.f30 1
noncomputable def o30_1 : List O := [⟨some 10, none, true, .mv (.s 0)⟩,
  ⟨some 11, none, false, .lenl (.s 10)⟩,
  ⟨some 12, none, true, .mv (.s 1)⟩,
  ⟨some 13, none, false, .lenl (.s 12)⟩,
  ⟨some 14, none, true, .bin .neq 3 (.s 11) (.s 13)⟩]
theorem g30_1 {cx : Ctx} {lo : Nat} {st : St} : om Try.prog cx lo c30_r1 st = reg st.marks (R2 Try.prog lo o30_1 st.env st.H) := res_run (by kernel_rfl)
noncomputable def c30_r2 : Code := regOf Try.f30 2
noncomputable def o30_2 : List O := [⟨some 6, none, true, .mv (.v (.bool false))⟩]
theorem g30_2 {cx : Ctx} {lo : Nat} {st : St} : om Try.prog cx lo c30_r2 st = reg st.marks (R2 Try.prog lo o30_2 st.env st.H) := res_run (by kernel_rfl)
noncomputable def c30_r3 : Code := regOf Try.f30 3
noncomputable def o30_3 : List O := [⟨some 15, none, true, .mv (.s 0)⟩,
  ⟨some 16, none, false, .lenl (.s 15)⟩,
  ⟨some 17, none, true, .mv (.v (.int .i64 0))⟩]
theorem g30_3 {cx : Ctx} {lo : Nat} {st : St} : om Try.prog cx lo c30_r3 st = reg st.marks (R2 Try.prog lo o30_3 st.env st.H) := res_run (by kernel_rfl)
noncomputable def c30_r4 : Code := regOf Try.f30 4
noncomputable def o30_4 : List O := [⟨some 18, none, true, .bin .lss 3 (.s 17) (.s 16)⟩]
theorem g30_4 {cx : Ctx} {lo : Nat} {st : St} : om Try.prog cx lo c30_r4 st = reg st.marks (R2 Try.prog lo o30_4 st.env st.H) := res_run (by kernel_rfl)
noncomputable def c30_r5 : Code := regOf Try.f30 5
noncomputable def o30_5 : List O := [⟨some 19, none, true, .mv (.s 17)⟩,
  ⟨some 20, none, true, .ixs 3 (.s 15) (.s 17)⟩,
  ⟨some 21, none, true, .ld (some 3) (.s 20)⟩,
  ⟨some 8, none, true, .new 39 [(.str ByteArray.empty), (.int .i64 0), (.rsl none 0 0 [])]⟩,
  ⟨some 7, none, true, .mv (.s 19)⟩,
  ⟨none, none, false, .st 3 (.s 8) (.s 21)⟩]
theorem g30_5 {cx : Ctx} {lo : Nat} {st : St} : om Try.prog cx lo c30_r5 st = reg st.marks (R2 Try.prog lo o30_5 st.env st.H) := res_run (by kernel_rfl)
noncomputable def c30_r6 : Code := regOf Try.f30 6
noncomputable def o30_6 : List O := [⟨some 22, none, true, .mv (.s 1)⟩,
  ⟨some 23, none, true, .mv (.s 7)⟩,
  ⟨some 24, none, true, .ixs 3 (.s 22) (.s 23)⟩,
  ⟨some 25, none, true, .ld (some 3) (.s 24)⟩,
  ⟨some 9, none, true, .new 39 [(.str ByteArray.empty), (.int .i64 0), (.rsl none 0 0 [])]⟩,
  ⟨none, none, false, .st 3 (.s 9) (.s 25)⟩]
theorem g30_6 {cx : Ctx} {lo : Nat} {st : St} : om Try.prog cx lo c30_r6 st = reg st.marks (R2 Try.prog lo o30_6 st.env st.H) := res_run (by kernel_rfl)
noncomputable def c30_r7 : Code := regOf Try.f30 7
noncomputable def o30_7 : List O := [⟨some 26, none, true, .mv (.s 2)⟩,
  ⟨some 27, none, true, .ld (some 3) (.s 8)⟩,
  ⟨some 28, none, true, .ld (some 3) (.s 9)⟩,
  ⟨some 29, none, false, .callv (.s 26) [(.s 27), (.s 28)]⟩,
  ⟨some 30, none, true, .un .not (.s 29)⟩]
theorem g30_7 {cx : Ctx} {lo : Nat} {st : St} : om Try.prog cx lo c30_r7 st = reg st.marks (R2 Try.prog lo o30_7 st.env st.H) := res_run (by kernel_rfl)
noncomputable def c30_r8 : Code := regOf Try.f30 8
noncomputable def o30_8 : List O := [⟨some 6, none, true, .mv (.v (.bool false))⟩]
theorem g30_8 {cx : Ctx} {lo : Nat} {st : St} : om Try.prog cx lo c30_r8 st = reg st.marks (R2 Try.prog lo o30_8 st.env st.H) := res_run (by kernel_rfl)
noncomputable def c30_r9 : Code := regOf Try.f30 9
noncomputable def o30_9 : List O := [⟨some 31, none, true, .bin .add 3 (.s 17) (.v (.int .i64 1))⟩,
  ⟨some 17, none, true, .mv (.s 31)⟩]
theorem g30_9 {cx : Ctx} {lo : Nat} {st : St} : om Try.prog cx lo c30_r9 st = reg st.marks (R2 Try.prog lo o30_9 st.env st.H) := res_run (by kernel_rfl)
noncomputable def c30_b0 : Code := (.seq c30_r4 (.seq (.cond (.tmp 18) .skip (.exit 0)) (.seq (.block 1 (.seq c30_r5 (.seq c30_r6 (.seq c30_r7 (.cond (.tmp 30) (.seq c30_r8 .ret) .skip))))) c30_r9)))
noncomputable def c30_l0 : Code := .loop c30_b0
noncomputable def c30_r10 : Code := regOf Try.f30 10
noncomputable def o30_10 : List O := [⟨some 6, none, true, .mv (.v (.bool true))⟩]
theorem g30_10 {cx : Ctx} {lo : Nat} {st : St} : om Try.prog cx lo c30_r10 st = reg st.marks (R2 Try.prog lo o30_10 st.env st.H) := res_run (by kernel_rfl)
noncomputable def c30 : Code := (.seq c30_r0 (.seq (.seq c30_r1 (.cond (.tmp 14) (.seq c30_r2 .ret) .skip)) (.seq (.seq c30_r3 (.block 0 c30_l0)) (.seq c30_r10 .ret))))
theorem c30_body : Try.f30.body = some c30 := by kernel_rfl
theorem c30_in (x0 x1 x2 : AV) (lo : Nat) (H : Heap) : ∃ e : List AV, e.length = 32 ∧ gd e 0 = x0 ∧ gd e 1 = x1 ∧ gd e 2 = x2 ∧ callA Try.prog (om Try.prog) lo 30 [x0, x1, x2] H = fin Try.prog (AV.rfL [x0, x1, x2]) [.tmp 6] H (om Try.prog ⟨30, none⟩ (if AV.rfL [x0, x1, x2] then H.next else lo) c30 ⟨e, [], H⟩) := by
  obtain ⟨e, h1, h2, h3⟩ := call_in (P := Try.prog) (lo := lo) (f := 30) (args := [x0, x1, x2]) (H := H) Try.func30 c30_body rfl
  exact ⟨e, h1, h2 0 (by simp), h2 1 (by simp), h2 2 (by simp), h3⟩
noncomputable def c31_r0 : Code := regOf Try.f31 0
noncomputable def o31_0 : List O := [⟨some 2, none, true, .box 39 3 (.s 0)⟩,
  ⟨some 3, none, true, .box 39 3 (.s 1)⟩,
  ⟨some 4, none, true, .mv (.v (.bool false))⟩]
theorem g31_0 {cx : Ctx} {lo : Nat} {st : St} : om Try.prog cx lo c31_r0 st = reg st.marks (R2 Try.prog lo o31_0 st.env st.H) := res_run (by kernel_rfl)
noncomputable def c31_r1 : Code := regOf Try.f31 1
noncomputable def o31_1 : List O := [⟨some 5, none, true, .fa 0 (.s 2)⟩,
  ⟨some 6, none, true, .ld none (.s 5)⟩,
  ⟨some 7, none, true, .fa 0 (.s 3)⟩,
  ⟨some 8, none, true, .ld none (.s 7)⟩,
  ⟨some 9, none, true, .bin .eql 9 (.s 6) (.s 8)⟩,
  ⟨some 10, none, true, .mv (.s 9)⟩,
  ⟨some 11, (some (some 10, true)), true, .fa 1 (.s 2)⟩,
  ⟨some 12, (some (some 10, true)), true, .ld none (.s 11)⟩,
  ⟨some 13, (some (some 10, true)), true, .fa 1 (.s 3)⟩,
  ⟨some 14, (some (some 10, true)), true, .ld none (.s 13)⟩,
  ⟨some 15, (some (some 10, true)), true, .bin .eql 3 (.s 12) (.s 14)⟩,
  ⟨some 16, none, true, .pick (.s 10) (.s 15) (.v (.bool false))⟩,
  ⟨some 17, none, true, .mv (.s 16)⟩,
  ⟨some 18, (some (some 17, true)), true, .fa 2 (.s 2)⟩,
  ⟨some 19, (some (some 17, true)), true, .ld none (.s 18)⟩,
  ⟨some 20, (some (some 17, true)), true, .fa 2 (.s 3)⟩,
  ⟨some 21, (some (some 17, true)), true, .ld none (.s 20)⟩,
  ⟨some 22, (some (some 17, true)), false, .call 32 [(.s 19), (.s 21)]⟩,
  ⟨some 23, none, true, .pick (.s 17) (.s 22) (.v (.bool false))⟩,
  ⟨some 4, none, true, .mv (.s 23)⟩]
theorem g31_1 {cx : Ctx} {lo : Nat} {st : St} : om Try.prog cx lo c31_r1 st = reg st.marks (R2 Try.prog lo o31_1 st.env st.H) := res_run (by kernel_rfl)
noncomputable def c31 : Code := (.seq c31_r0 (.seq c31_r1 .ret))
theorem c31_body : Try.f31.body = some c31 := by kernel_rfl
theorem c31_in (x0 x1 : AV) (lo : Nat) (H : Heap) : ∃ e : List AV, e.length = 24 ∧ gd e 0 = x0 ∧ gd e 1 = x1 ∧ callA Try.prog (om Try.prog) lo 31 [x0, x1] H = fin Try.prog (AV.rfL [x0, x1]) [.tmp 4] H (om Try.prog ⟨31, none⟩ (if AV.rfL [x0, x1] then H.next else lo) c31 ⟨e, [], H⟩) := by
  obtain ⟨e, h1, h2, h3⟩ := call_in (P := Try.prog) (lo := lo) (f := 31) (args := [x0, x1]) (H := H) Try.func31 c31_body rfl
  exact ⟨e, h1, h2 0 (by simp), h2 1 (by simp), h3⟩
noncomputable def c32_r0 : Code := regOf Try.f32 0
noncomputable def o32_0 : List O := [⟨some 4, none, true, .mv (.v (.bool false))⟩]
theorem g32_0 {cx : Ctx} {lo : Nat} {st : St} : om Try.prog cx lo c32_r0 st = reg st.marks (R2 Try.prog lo o32_0 st.env st.H) := res_run (by kernel_rfl)
noncomputable def c32_r1 : Code := regOf Try.f32 1
noncomputable def o32_1 : List O := [⟨some 5, none, true, .mv (.s 0)⟩,
  ⟨some 6, none, false, .raw (.convert 37 9 (.tmp 5))⟩,
  ⟨some 7, none, true, .mv (.s 1)⟩,
  ⟨some 8, none, false, .raw (.convert 37 9 (.tmp 7))⟩,
  ⟨some 9, none, true, .bin .eql 9 (.s 6) (.s 8)⟩,
  ⟨some 4, none, true, .mv (.s 9)⟩]
theorem g32_1 {cx : Ctx} {lo : Nat} {st : St} : om Try.prog cx lo c32_r1 st = reg st.marks (R2 Try.prog lo o32_1 st.env st.H) := res_run (by kernel_rfl)
noncomputable def c32 : Code := (.seq c32_r0 (.seq c32_r1 .ret))
theorem c32_body : Try.f32.body = some c32 := by kernel_rfl
theorem c32_in (x0 x1 : AV) (lo : Nat) (H : Heap) : ∃ e : List AV, e.length = 10 ∧ gd e 0 = x0 ∧ gd e 1 = x1 ∧ callA Try.prog (om Try.prog) lo 32 [x0, x1] H = fin Try.prog (AV.rfL [x0, x1]) [.tmp 4] H (om Try.prog ⟨32, none⟩ (if AV.rfL [x0, x1] then H.next else lo) c32 ⟨e, [], H⟩) := by
  obtain ⟨e, h1, h2, h3⟩ := call_in (P := Try.prog) (lo := lo) (f := 32) (args := [x0, x1]) (H := H) Try.func32 c32_body rfl
  exact ⟨e, h1, h2 0 (by simp), h2 1 (by simp), h3⟩
noncomputable def c33_r0 : Code := regOf Try.f33 0
noncomputable def o33_0 : List O := [⟨some 2, none, true, .mv (.v (.bool false))⟩]
theorem g33_0 {cx : Ctx} {lo : Nat} {st : St} : om Try.prog cx lo c33_r0 st = reg st.marks (R2 Try.prog lo o33_0 st.env st.H) := res_run (by kernel_rfl)
noncomputable def c33_r1 : Code := regOf Try.f33 1
noncomputable def o33_1 : List O := [⟨some 7, none, true, .mv (.s 0)⟩,
  ⟨some 8, none, false, .lens (.s 7)⟩,
  ⟨some 9, none, true, .bin .eql 3 (.s 8) (.v (.int .i64 0))⟩,
  ⟨some 10, none, true, .mv (.s 9)⟩,
  ⟨some 11, (some (some 10, false)), true, .mv (.s 0)⟩,
  ⟨some 12, (some (some 10, false)), false, .lens (.s 11)⟩,
  ⟨some 13, (some (some 10, false)), true, .bin .gtr 3 (.s 12) (.v (.int .i64 24))⟩,
  ⟨some 14, none, true, .pick (.s 10) (.v (.bool true)) (.s 13)⟩]
theorem g33_1 {cx : Ctx} {lo : Nat} {st : St} : om Try.prog cx lo c33_r1 st = reg st.marks (R2 Try.prog lo o33_1 st.env st.H) := res_run (by kernel_rfl)
noncomputable def c33_r2 : Code := regOf Try.f33 2
noncomputable def o33_2 : List O := [⟨some 2, none, true, .mv (.v (.bool false))⟩]
theorem g33_2 {cx : Ctx} {lo : Nat} {st : St} : om Try.prog cx lo c33_r2 st = reg st.marks (R2 Try.prog lo o33_2 st.env st.H) := res_run (by kernel_rfl)
noncomputable def c33_r3 : Code := regOf Try.f33 3
noncomputable def o33_3 : List O := [⟨some 3, none, true, .mv (.v (.int .i64 0))⟩]
theorem g33_3 {cx : Ctx} {lo : Nat} {st : St} : om Try.prog cx lo c33_r3 st = reg st.marks (R2 Try.prog lo o33_3 st.env st.H) := res_run (by kernel_rfl)
noncomputable def c33_r4 : Code := regOf Try.f33 4
noncomputable def o33_4 : List O := [⟨some 15, none, true, .mv (.s 3)⟩,
  ⟨some 16, none, true, .mv (.s 0)⟩,
  ⟨some 17, none, false, .lens (.s 16)⟩,
  ⟨some 18, none, true, .bin .lss 3 (.s 15) (.s 17)⟩]
theorem g33_4 {cx : Ctx} {lo : Nat} {st : St} : om Try.prog cx lo c33_r4 st = reg st.marks (R2 Try.prog lo o33_4 st.env st.H) := res_run (by kernel_rfl)
noncomputable def c33_r6 : Code := regOf Try.f33 6
noncomputable def o33_6 : List O := [⟨some 21, none, true, .mv (.s 0)⟩,
  ⟨some 22, none, true, .mv (.s 3)⟩,
  ⟨some 23, none, true, .six (.s 21) (.s 22)⟩,
  ⟨some 4, none, true, .mv (.s 23)⟩]
theorem g33_6 {cx : Ctx} {lo : Nat} {st : St} : om Try.prog cx lo c33_r6 st = reg st.marks (R2 Try.prog lo o33_6 st.env st.H) := res_run (by kernel_rfl)
noncomputable def c33_r7 : Code := regOf Try.f33 7
noncomputable def o33_7 : List O := [⟨some 24, none, true, .mv (.s 4)⟩,
  ⟨some 25, none, true, .bin .geq 5 (.s 24) (.v (.int .u8 97))⟩,
  ⟨some 26, none, true, .mv (.s 25)⟩,
  ⟨some 27, (some (some 26, true)), true, .mv (.s 4)⟩,
  ⟨some 28, (some (some 26, true)), true, .bin .leq 5 (.s 27) (.v (.int .u8 122))⟩,
  ⟨some 29, none, true, .pick (.s 26) (.s 28) (.v (.bool false))⟩,
  ⟨some 30, none, true, .mv (.s 29)⟩,
  ⟨some 31, (some (some 30, false)), true, .mv (.s 4)⟩,
  ⟨some 32, (some (some 30, false)), true, .bin .geq 5 (.s 31) (.v (.int .u8 65))⟩,
  ⟨some 33, (some (some 30, false)), true, .mv (.s 32)⟩,
  ⟨some 34, (some (some 33, true)), true, .mv (.s 4)⟩,
  ⟨some 35, (some (some 33, true)), true, .bin .leq 5 (.s 34) (.v (.int .u8 90))⟩,
  ⟨some 36, (some (some 30, false)), true, .pick (.s 33) (.s 35) (.v (.bool false))⟩,
  ⟨some 37, none, true, .pick (.s 30) (.v (.bool true)) (.s 36)⟩,
  ⟨some 5, none, true, .mv (.s 37)⟩]
theorem g33_7 {cx : Ctx} {lo : Nat} {st : St} : om Try.prog cx lo c33_r7 st = reg st.marks (R2 Try.prog lo o33_7 st.env st.H) := res_run (by kernel_rfl)
noncomputable def c33_r8 : Code := regOf Try.f33 8
noncomputable def o33_8 : List O := [⟨some 38, none, true, .mv (.s 4)⟩,
  ⟨some 39, none, true, .bin .geq 5 (.s 38) (.v (.int .u8 48))⟩,
  ⟨some 40, none, true, .mv (.s 39)⟩,
  ⟨some 41, (some (some 40, true)), true, .mv (.s 4)⟩,
  ⟨some 42, (some (some 40, true)), true, .bin .leq 5 (.s 41) (.v (.int .u8 57))⟩,
  ⟨some 43, none, true, .pick (.s 40) (.s 42) (.v (.bool false))⟩,
  ⟨some 44, none, true, .mv (.s 43)⟩,
  ⟨some 45, (some (some 44, false)), true, .mv (.s 4)⟩,
  ⟨some 46, (some (some 44, false)), true, .bin .eql 5 (.s 45) (.v (.int .u8 95))⟩,
  ⟨some 47, none, true, .pick (.s 44) (.v (.bool true)) (.s 46)⟩,
  ⟨some 6, none, true, .mv (.s 47)⟩]
theorem g33_8 {cx : Ctx} {lo : Nat} {st : St} : om Try.prog cx lo c33_r8 st = reg st.marks (R2 Try.prog lo o33_8 st.env st.H) := res_run (by kernel_rfl)
noncomputable def c33_r9 : Code := regOf Try.f33 9
noncomputable def o33_9 : List O := [⟨some 48, none, true, .mv (.s 5)⟩,
  ⟨some 49, none, true, .un .not (.s 48)⟩,
  ⟨some 50, none, true, .mv (.s 49)⟩,
  ⟨some 51, (some (some 50, true)), true, .mv (.s 3)⟩,
  ⟨some 52, (some (some 50, true)), true, .bin .eql 3 (.s 51) (.v (.int .i64 0))⟩,
  ⟨some 53, (some (some 50, true)), true, .mv (.s 52)⟩,
  ⟨some 54, (some (some 53, false)), true, .mv (.s 6)⟩,
  ⟨some 55, (some (some 53, false)), true, .un .not (.s 54)⟩,
  ⟨some 56, (some (some 50, true)), true, .pick (.s 53) (.v (.bool true)) (.s 55)⟩,
  ⟨some 57, none, true, .pick (.s 50) (.s 56) (.v (.bool false))⟩]
theorem g33_9 {cx : Ctx} {lo : Nat} {st : St} : om Try.prog cx lo c33_r9 st = reg st.marks (R2 Try.prog lo o33_9 st.env st.H) := res_run (by kernel_rfl)
noncomputable def c33_r10 : Code := regOf Try.f33 10
noncomputable def o33_10 : List O := [⟨some 2, none, true, .mv (.v (.bool false))⟩]
theorem g33_10 {cx : Ctx} {lo : Nat} {st : St} : om Try.prog cx lo c33_r10 st = reg st.marks (R2 Try.prog lo o33_10 st.env st.H) := res_run (by kernel_rfl)
noncomputable def c33_r5 : Code := regOf Try.f33 5
noncomputable def o33_5 : List O := [⟨some 19, none, true, .mv (.s 3)⟩,
  ⟨some 20, none, true, .bin .add 3 (.s 19) (.v (.int .i64 1))⟩,
  ⟨some 3, none, true, .mv (.s 20)⟩]
theorem g33_5 {cx : Ctx} {lo : Nat} {st : St} : om Try.prog cx lo c33_r5 st = reg st.marks (R2 Try.prog lo o33_5 st.env st.H) := res_run (by kernel_rfl)
noncomputable def c33_b0 : Code := (.seq (.seq c33_r4 (.cond (.tmp 18) .skip (.exit 0))) (.seq (.block 1 (.seq c33_r6 (.seq c33_r7 (.seq c33_r8 (.seq c33_r9 (.cond (.tmp 57) (.seq c33_r10 .ret) .skip)))))) c33_r5))
noncomputable def c33_l0 : Code := .loop c33_b0
noncomputable def c33_r11 : Code := regOf Try.f33 11
noncomputable def o33_11 : List O := [⟨some 2, none, true, .mv (.v (.bool true))⟩]
theorem g33_11 {cx : Ctx} {lo : Nat} {st : St} : om Try.prog cx lo c33_r11 st = reg st.marks (R2 Try.prog lo o33_11 st.env st.H) := res_run (by kernel_rfl)
noncomputable def c33 : Code := (.seq c33_r0 (.seq (.seq c33_r1 (.cond (.tmp 14) (.seq c33_r2 .ret) .skip)) (.seq (.seq c33_r3 (.block 0 c33_l0)) (.seq c33_r11 .ret))))
theorem c33_body : Try.f33.body = some c33 := by kernel_rfl
theorem c33_in (x0 : AV) (lo : Nat) (H : Heap) : ∃ e : List AV, e.length = 58 ∧ gd e 0 = x0 ∧ callA Try.prog (om Try.prog) lo 33 [x0] H = fin Try.prog (AV.rfL [x0]) [.tmp 2] H (om Try.prog ⟨33, none⟩ (if AV.rfL [x0] then H.next else lo) c33 ⟨e, [], H⟩) := by
  obtain ⟨e, h1, h2, h3⟩ := call_in (P := Try.prog) (lo := lo) (f := 33) (args := [x0]) (H := H) Try.func33 c33_body rfl
  exact ⟨e, h1, h2 0 (by simp), h3⟩
noncomputable def c34_r0 : Code := regOf Try.f34 0
noncomputable def o34_0 : List O := [⟨some 6, none, true, .mv (.v (.bool false))⟩]
theorem g34_0 {cx : Ctx} {lo : Nat} {st : St} : om Try.prog cx lo c34_r0 st = reg st.marks (R2 Try.prog lo o34_0 st.env st.H) := res_run (by kernel_rfl)
noncomputable def c34_r1 : Code := regOf Try.f34 1
noncomputable def o34_1 : List O := [⟨some 7, none, true, .mv (.s 1)⟩,
  ⟨some 8, none, true, .mv (.s 0)⟩,
  ⟨some 9, none, true, .bin .leq 3 (.s 7) (.s 8)⟩,
  ⟨some 10, none, true, .mv (.s 9)⟩,
  ⟨some 11, (some (some 10, true)), true, .mv (.s 0)⟩,
  ⟨some 12, (some (some 10, true)), true, .mv (.s 2)⟩,
  ⟨some 13, (some (some 10, true)), true, .bin .leq 3 (.s 11) (.s 12)⟩,
  ⟨some 14, none, true, .pick (.s 10) (.s 13) (.v (.bool false))⟩,
  ⟨some 6, none, true, .mv (.s 14)⟩]
theorem g34_1 {cx : Ctx} {lo : Nat} {st : St} : om Try.prog cx lo c34_r1 st = reg st.marks (R2 Try.prog lo o34_1 st.env st.H) := res_run (by kernel_rfl)
noncomputable def c34 : Code := (.seq c34_r0 (.seq c34_r1 .ret))
theorem c34_body : Try.f34.body = some c34 := by kernel_rfl
theorem c34_in (x0 x1 x2 : AV) (lo : Nat) (H : Heap) : ∃ e : List AV, e.length = 15 ∧ gd e 0 = x0 ∧ gd e 1 = x1 ∧ gd e 2 = x2 ∧ callA Try.prog (om Try.prog) lo 34 [x0, x1, x2] H = fin Try.prog (AV.rfL [x0, x1, x2]) [.tmp 6] H (om Try.prog ⟨34, none⟩ (if AV.rfL [x0, x1, x2] then H.next else lo) c34 ⟨e, [], H⟩) := by
  obtain ⟨e, h1, h2, h3⟩ := call_in (P := Try.prog) (lo := lo) (f := 34) (args := [x0, x1, x2]) (H := H) Try.func34 c34_body rfl
  exact ⟨e, h1, h2 0 (by simp), h2 1 (by simp), h2 2 (by simp), h3⟩
noncomputable def c35_r0 : Code := regOf Try.f35 0
noncomputable def o35_0 : List O := [⟨some 2, none, true, .box 26 4 (.s 0)⟩,
  ⟨some 3, none, true, .box 43 8 (.s 1)⟩,
  ⟨some 4, none, true, .mv (.v (.bool false))⟩]
theorem g35_0 {cx : Ctx} {lo : Nat} {st : St} : om Try.prog cx lo c35_r0 st = reg st.marks (R2 Try.prog lo o35_0 st.env st.H) := res_run (by kernel_rfl)
noncomputable def c35_r1 : Code := regOf Try.f35 1
noncomputable def o35_1a : List O := [⟨some 5, none, true, .fa 0 (.s 3)⟩,
  ⟨some 6, none, true, .ld none (.s 5)⟩,
  ⟨some 7, none, true, .fa 1 (.s 2)⟩,
  ⟨some 8, none, true, .ld none (.s 7)⟩,
  ⟨some 9, none, false, .lenl (.s 8)⟩,
  ⟨some 10, none, true, .bin .sub 3 (.s 9) (.v (.int .i64 1))⟩,
  ⟨some 11, none, false, .call 34 [(.s 6), (.v (.int .i64 0)), (.s 10)]⟩,
  ⟨some 12, none, true, .un .not (.s 11)⟩,
  ⟨some 13, none, true, .mv (.s 12)⟩,
  ⟨some 14, (some (some 13, false)), true, .fa 1 (.s 3)⟩,
  ⟨some 15, (some (some 13, false)), true, .ld none (.s 14)⟩,
  ⟨some 16, (some (some 13, false)), true, .fa 1 (.s 2)⟩,
  ⟨some 17, (some (some 13, false)), true, .ld none (.s 16)⟩,
  ⟨some 18, (some (some 13, false)), true, .fa 0 (.s 3)⟩,
  ⟨some 19, (some (some 13, false)), true, .ld none (.s 18)⟩,
  ⟨some 20, (some (some 13, false)), true, .ixs 3 (.s 17) (.s 19)⟩,
  ⟨some 21, (some (some 13, false)), true, .fa 2 (.s 20)⟩,
  ⟨some 22, (some (some 13, false)), true, .ld none (.s 21)⟩,
  ⟨some 23, (some (some 13, false)), false, .lenl (.s 22)⟩,
  ⟨some 24, (some (some 13, false)), false, .call 34 [(.s 15), (.v (.int .i64 0)), (.s 23)]⟩,
  ⟨some 25, (some (some 13, false)), true, .un .not (.s 24)⟩,
  ⟨some 26, none, true, .pick (.s 13) (.v (.bool true)) (.s 25)⟩,
  ⟨some 27, none, true, .mv (.s 26)⟩,
  ⟨some 28, (some (some 27, false)), true, .fa 3 (.s 3)⟩,
  ⟨some 29, (some (some 27, false)), true, .ld none (.s 28)⟩,
  ⟨some 30, (some (some 27, false)), true, .fa 2 (.s 2)⟩,
  ⟨some 31, (some (some 27, false)), true, .ld none (.s 30)⟩,
  ⟨some 32, (some (some 27, false)), false, .lenl (.s 31)⟩,
  ⟨some 33, (some (some 27, false)), true, .bin .sub 3 (.s 32) (.v (.int .i64 1))⟩]
noncomputable def o35_1b : List O := [⟨some 34, (some (some 27, false)), false, .call 34 [(.s 29), (.v (.int .i64 0)), (.s 33)]⟩,
  ⟨some 35, (some (some 27, false)), true, .un .not (.s 34)⟩,
  ⟨some 36, none, true, .pick (.s 27) (.v (.bool true)) (.s 35)⟩,
  ⟨some 37, none, true, .mv (.s 36)⟩,
  ⟨some 38, (some (some 37, false)), true, .fa 4 (.s 3)⟩,
  ⟨some 39, (some (some 37, false)), true, .ld none (.s 38)⟩,
  ⟨some 40, (some (some 37, false)), false, .call 34 [(.s 39), (.v (.int .i64 (-1048576))), (.v (.int .i64 1048576))]⟩,
  ⟨some 41, (some (some 37, false)), true, .un .not (.s 40)⟩,
  ⟨some 42, none, true, .pick (.s 37) (.v (.bool true)) (.s 41)⟩]
theorem g35_1 {rnd : Option Nat} {lo : Nat} {st : St} : om Try.prog ⟨35, rnd⟩ lo c35_r1 st = reg st.marks (dre (stl (S2 Try.prog o35_1a st.env st.H) (K4 Try.prog lo o35_1b)) (Fb Try.prog lo c35_r1 st.env st.H)) := resD_run (by kernel_rfl) rfl
noncomputable def c35_r2 : Code := regOf Try.f35 2
noncomputable def o35_2 : List O := [⟨some 4, none, true, .mv (.v (.bool false))⟩]
theorem g35_2 {cx : Ctx} {lo : Nat} {st : St} : om Try.prog cx lo c35_r2 st = reg st.marks (R2 Try.prog lo o35_2 st.env st.H) := res_run (by kernel_rfl)
noncomputable def c35_r3 : Code := regOf Try.f35 3
noncomputable def o35_3 : List O := [⟨some 43, none, true, .fa 2 (.s 3)⟩,
  ⟨some 44, none, true, .ld none (.s 43)⟩]
theorem g35_3 {cx : Ctx} {lo : Nat} {st : St} : om Try.prog cx lo c35_r3 st = reg st.marks (R2 Try.prog lo o35_3 st.env st.H) := res_run (by kernel_rfl)
noncomputable def c35_r4 : Code := regOf Try.f35 4
noncomputable def o35_4 : List O := [⟨some 46, none, true, .bin .eql 5 (.s 44) (.v (.int .u8 1))⟩,
  ⟨some 45, none, true, .mv (.s 46)⟩]
theorem g35_4 {cx : Ctx} {lo : Nat} {st : St} : om Try.prog cx lo c35_r4 st = reg st.marks (R2 Try.prog lo o35_4 st.env st.H) := res_run (by kernel_rfl)
noncomputable def c35_r5 : Code := regOf Try.f35 5
noncomputable def o35_5 : List O := [⟨some 47, none, true, .fa 5 (.s 3)⟩,
  ⟨some 48, none, true, .ld none (.s 47)⟩,
  ⟨some 49, none, true, .bin .eql 3 (.s 48) (.v (.int .i64 0))⟩,
  ⟨some 50, none, true, .mv (.s 49)⟩,
  ⟨some 51, (some (some 50, true)), true, .fa 6 (.s 3)⟩,
  ⟨some 52, (some (some 50, true)), true, .ld none (.s 51)⟩,
  ⟨some 53, (some (some 50, true)), true, .bin .eql 3 (.s 52) (.v (.int .i64 0))⟩,
  ⟨some 54, none, true, .pick (.s 50) (.s 53) (.v (.bool false))⟩,
  ⟨some 55, none, true, .mv (.s 54)⟩,
  ⟨some 56, (some (some 55, true)), true, .fa 7 (.s 3)⟩,
  ⟨some 57, (some (some 55, true)), true, .ld none (.s 56)⟩,
  ⟨some 58, (some (some 55, true)), true, .bin .eql 3 (.s 57) (.v (.int .i64 0))⟩,
  ⟨some 59, none, true, .pick (.s 55) (.s 58) (.v (.bool false))⟩,
  ⟨some 4, none, true, .mv (.s 59)⟩]
theorem g35_5 {cx : Ctx} {lo : Nat} {st : St} : om Try.prog cx lo c35_r5 st = reg st.marks (R2 Try.prog lo o35_5 st.env st.H) := res_run (by kernel_rfl)
noncomputable def c35_r6 : Code := regOf Try.f35 6
noncomputable def o35_6 : List O := [⟨some 61, none, true, .bin .eql 5 (.s 44) (.v (.int .u8 2))⟩,
  ⟨some 60, none, true, .mv (.s 61)⟩]
theorem g35_6 {cx : Ctx} {lo : Nat} {st : St} : om Try.prog cx lo c35_r6 st = reg st.marks (R2 Try.prog lo o35_6 st.env st.H) := res_run (by kernel_rfl)
noncomputable def c35_r7 : Code := regOf Try.f35 7
noncomputable def o35_7 : List O := [⟨some 62, none, true, .fa 5 (.s 3)⟩,
  ⟨some 63, none, true, .ld none (.s 62)⟩,
  ⟨some 64, none, false, .call 34 [(.s 63), (.v (.int .i64 0)), (.v (.int .i64 63))]⟩,
  ⟨some 65, none, true, .mv (.s 64)⟩,
  ⟨some 66, (some (some 65, true)), true, .fa 6 (.s 3)⟩,
  ⟨some 67, (some (some 65, true)), true, .ld none (.s 66)⟩,
  ⟨some 68, (some (some 65, true)), false, .call 34 [(.s 67), (.v (.int .i64 0)), (.v (.int .i64 3))]⟩,
  ⟨some 69, none, true, .pick (.s 65) (.s 68) (.v (.bool false))⟩,
  ⟨some 70, none, true, .mv (.s 69)⟩,
  ⟨some 71, (some (some 70, true)), true, .fa 7 (.s 3)⟩,
  ⟨some 72, (some (some 70, true)), true, .ld none (.s 71)⟩,
  ⟨some 73, (some (some 70, true)), true, .bin .eql 3 (.s 72) (.v (.int .i64 0))⟩,
  ⟨some 74, none, true, .pick (.s 70) (.s 73) (.v (.bool false))⟩,
  ⟨some 4, none, true, .mv (.s 74)⟩]
theorem g35_7 {cx : Ctx} {lo : Nat} {st : St} : om Try.prog cx lo c35_r7 st = reg st.marks (R2 Try.prog lo o35_7 st.env st.H) := res_run (by kernel_rfl)
noncomputable def c35_r8 : Code := regOf Try.f35 8
noncomputable def o35_8 : List O := [⟨some 76, none, true, .bin .eql 5 (.s 44) (.v (.int .u8 3))⟩,
  ⟨some 75, none, true, .mv (.s 76)⟩]
theorem g35_8 {cx : Ctx} {lo : Nat} {st : St} : om Try.prog cx lo c35_r8 st = reg st.marks (R2 Try.prog lo o35_8 st.env st.H) := res_run (by kernel_rfl)
noncomputable def c35_r9 : Code := regOf Try.f35 9
noncomputable def o35_9 : List O := [⟨some 77, none, true, .fa 5 (.s 3)⟩,
  ⟨some 78, none, true, .ld none (.s 77)⟩,
  ⟨some 79, none, false, .call 34 [(.s 78), (.v (.int .i64 0)), (.v (.int .i64 63))]⟩,
  ⟨some 80, none, true, .mv (.s 79)⟩,
  ⟨some 81, (some (some 80, true)), true, .fa 6 (.s 3)⟩,
  ⟨some 82, (some (some 80, true)), true, .ld none (.s 81)⟩,
  ⟨some 83, (some (some 80, true)), false, .call 34 [(.s 82), (.v (.int .i64 0)), (.v (.int .i64 3))]⟩,
  ⟨some 84, none, true, .pick (.s 80) (.s 83) (.v (.bool false))⟩,
  ⟨some 85, none, true, .mv (.s 84)⟩,
  ⟨some 86, (some (some 85, true)), true, .fa 7 (.s 3)⟩,
  ⟨some 87, (some (some 85, true)), true, .ld none (.s 86)⟩,
  ⟨some 88, (some (some 85, true)), false, .call 34 [(.s 87), (.v (.int .i64 0)), (.v (.int .i64 31))]⟩,
  ⟨some 89, none, true, .pick (.s 85) (.s 88) (.v (.bool false))⟩,
  ⟨some 4, none, true, .mv (.s 89)⟩]
theorem g35_9 {cx : Ctx} {lo : Nat} {st : St} : om Try.prog cx lo c35_r9 st = reg st.marks (R2 Try.prog lo o35_9 st.env st.H) := res_run (by kernel_rfl)
noncomputable def c35_r10 : Code := regOf Try.f35 10
noncomputable def o35_10 : List O := [⟨some 4, none, true, .mv (.v (.bool false))⟩]
theorem g35_10 {cx : Ctx} {lo : Nat} {st : St} : om Try.prog cx lo c35_r10 st = reg st.marks (R2 Try.prog lo o35_10 st.env st.H) := res_run (by kernel_rfl)
noncomputable def c35 : Code := (.seq c35_r0 (.seq (.seq c35_r1 (.cond (.tmp 42) (.seq c35_r2 .ret) .skip)) (.seq (.seq c35_r3 (.block 0 (.seq c35_r4 (.cond (.tmp 45) (.seq c35_r5 .ret) (.seq c35_r6 (.cond (.tmp 60) (.seq c35_r7 .ret) (.seq c35_r8 (.cond (.tmp 75) (.seq c35_r9 .ret) .skip)))))))) (.seq c35_r10 .ret))))
theorem c35_body : Try.f35.body = some c35 := by kernel_rfl
theorem c35_in (x0 x1 : AV) (lo : Nat) (H : Heap) : ∃ e : List AV, e.length = 90 ∧ gd e 0 = x0 ∧ gd e 1 = x1 ∧ callA Try.prog (om Try.prog) lo 35 [x0, x1] H = fin Try.prog (AV.rfL [x0, x1]) [.tmp 4] H (om Try.prog ⟨35, none⟩ (if AV.rfL [x0, x1] then H.next else lo) c35 ⟨e, [], H⟩) := by
  obtain ⟨e, h1, h2, h3⟩ := call_in (P := Try.prog) (lo := lo) (f := 35) (args := [x0, x1]) (H := H) Try.func35 c35_body rfl
  exact ⟨e, h1, h2 0 (by simp), h2 1 (by simp), h3⟩
noncomputable def c36_r0 : Code := regOf Try.f36 0
noncomputable def o36_0 : List O := [⟨some 2, none, true, .box 43 8 (.s 0)⟩,
  ⟨some 3, none, true, .box 43 8 (.s 1)⟩,
  ⟨some 4, none, true, .mv (.v (.bool false))⟩]
theorem g36_0 {cx : Ctx} {lo : Nat} {st : St} : om Try.prog cx lo c36_r0 st = reg st.marks (R2 Try.prog lo o36_0 st.env st.H) := res_run (by kernel_rfl)
noncomputable def c36_r1 : Code := regOf Try.f36 1
noncomputable def o36_1 : List O := [⟨some 5, none, true, .fa 0 (.s 2)⟩,
  ⟨some 6, none, true, .ld none (.s 5)⟩,
  ⟨some 7, none, true, .fa 0 (.s 3)⟩,
  ⟨some 8, none, true, .ld none (.s 7)⟩,
  ⟨some 9, none, true, .bin .neq 3 (.s 6) (.s 8)⟩]
theorem g36_1 {cx : Ctx} {lo : Nat} {st : St} : om Try.prog cx lo c36_r1 st = reg st.marks (R2 Try.prog lo o36_1 st.env st.H) := res_run (by kernel_rfl)
noncomputable def c36_r2 : Code := regOf Try.f36 2
noncomputable def o36_2 : List O := [⟨some 10, none, true, .fa 0 (.s 2)⟩,
  ⟨some 11, none, true, .ld none (.s 10)⟩,
  ⟨some 12, none, true, .fa 0 (.s 3)⟩,
  ⟨some 13, none, true, .ld none (.s 12)⟩,
  ⟨some 14, none, true, .bin .lss 3 (.s 11) (.s 13)⟩,
  ⟨some 4, none, true, .mv (.s 14)⟩]
theorem g36_2 {cx : Ctx} {lo : Nat} {st : St} : om Try.prog cx lo c36_r2 st = reg st.marks (R2 Try.prog lo o36_2 st.env st.H) := res_run (by kernel_rfl)
noncomputable def c36_r3 : Code := regOf Try.f36 3
noncomputable def o36_3 : List O := [⟨some 15, none, true, .fa 1 (.s 2)⟩,
  ⟨some 16, none, true, .ld none (.s 15)⟩,
  ⟨some 17, none, true, .fa 1 (.s 3)⟩,
  ⟨some 18, none, true, .ld none (.s 17)⟩,
  ⟨some 19, none, true, .bin .neq 3 (.s 16) (.s 18)⟩]
theorem g36_3 {cx : Ctx} {lo : Nat} {st : St} : om Try.prog cx lo c36_r3 st = reg st.marks (R2 Try.prog lo o36_3 st.env st.H) := res_run (by kernel_rfl)
noncomputable def c36_r4 : Code := regOf Try.f36 4
noncomputable def o36_4 : List O := [⟨some 20, none, true, .fa 1 (.s 2)⟩,
  ⟨some 21, none, true, .ld none (.s 20)⟩,
  ⟨some 22, none, true, .fa 1 (.s 3)⟩,
  ⟨some 23, none, true, .ld none (.s 22)⟩,
  ⟨some 24, none, true, .bin .lss 3 (.s 21) (.s 23)⟩,
  ⟨some 4, none, true, .mv (.s 24)⟩]
theorem g36_4 {cx : Ctx} {lo : Nat} {st : St} : om Try.prog cx lo c36_r4 st = reg st.marks (R2 Try.prog lo o36_4 st.env st.H) := res_run (by kernel_rfl)
noncomputable def c36_r5 : Code := regOf Try.f36 5
noncomputable def o36_5 : List O := [⟨some 25, none, true, .fa 6 (.s 2)⟩,
  ⟨some 26, none, true, .ld none (.s 25)⟩,
  ⟨some 27, none, true, .fa 6 (.s 3)⟩,
  ⟨some 28, none, true, .ld none (.s 27)⟩,
  ⟨some 29, none, true, .bin .lss 3 (.s 26) (.s 28)⟩,
  ⟨some 4, none, true, .mv (.s 29)⟩]
theorem g36_5 {cx : Ctx} {lo : Nat} {st : St} : om Try.prog cx lo c36_r5 st = reg st.marks (R2 Try.prog lo o36_5 st.env st.H) := res_run (by kernel_rfl)
noncomputable def c36 : Code := (.seq c36_r0 (.seq (.seq c36_r1 (.cond (.tmp 9) (.seq c36_r2 .ret) .skip)) (.seq (.seq c36_r3 (.cond (.tmp 19) (.seq c36_r4 .ret) .skip)) (.seq c36_r5 .ret))))
theorem c36_body : Try.f36.body = some c36 := by kernel_rfl
theorem c36_in (x0 x1 : AV) (lo : Nat) (H : Heap) : ∃ e : List AV, e.length = 30 ∧ gd e 0 = x0 ∧ gd e 1 = x1 ∧ callA Try.prog (om Try.prog) lo 36 [x0, x1] H = fin Try.prog (AV.rfL [x0, x1]) [.tmp 4] H (om Try.prog ⟨36, none⟩ (if AV.rfL [x0, x1] then H.next else lo) c36 ⟨e, [], H⟩) := by
  obtain ⟨e, h1, h2, h3⟩ := call_in (P := Try.prog) (lo := lo) (f := 36) (args := [x0, x1]) (H := H) Try.func36 c36_body rfl
  exact ⟨e, h1, h2 0 (by simp), h2 1 (by simp), h3⟩
noncomputable def c37_r0 : Code := regOf Try.f37 0
noncomputable def o37_0 : List O := [⟨some 2, none, true, .mv (.v (.int .i64 0))⟩]
theorem g37_0 {cx : Ctx} {lo : Nat} {st : St} : om Try.prog cx lo c37_r0 st = reg st.marks (R2 Try.prog lo o37_0 st.env st.H) := res_run (by kernel_rfl)
noncomputable def c37_r1 : Code := regOf Try.f37 1
noncomputable def o37_1 : List O := [⟨some 3, none, true, .mv (.v (.int .i64 0))⟩]
theorem g37_1 {cx : Ctx} {lo : Nat} {st : St} : om Try.prog cx lo c37_r1 st = reg st.marks (R2 Try.prog lo o37_1 st.env st.H) := res_run (by kernel_rfl)
noncomputable def c37_r2 : Code := regOf Try.f37 2
noncomputable def o37_2 : List O := [⟨some 6, none, true, .mv (.s 0)⟩,
  ⟨some 7, none, false, .lenl (.s 6)⟩,
  ⟨some 8, none, true, .mv (.v (.int .i64 0))⟩]
theorem g37_2 {cx : Ctx} {lo : Nat} {st : St} : om Try.prog cx lo c37_r2 st = reg st.marks (R2 Try.prog lo o37_2 st.env st.H) := res_run (by kernel_rfl)
noncomputable def c37_r3 : Code := regOf Try.f37 3
noncomputable def o37_3 : List O := [⟨some 9, none, true, .bin .lss 3 (.s 8) (.s 7)⟩]
theorem g37_3 {cx : Ctx} {lo : Nat} {st : St} : om Try.prog cx lo c37_r3 st = reg st.marks (R2 Try.prog lo o37_3 st.env st.H) := res_run (by kernel_rfl)
noncomputable def c37_r4 : Code := regOf Try.f37 4
noncomputable def o37_4 : List O := [⟨some 10, none, true, .ixs 1 (.s 6) (.s 8)⟩,
  ⟨some 11, none, true, .ld none (.s 10)⟩,
  ⟨some 5, none, true, .mv (.s 11)⟩]
theorem g37_4 {cx : Ctx} {lo : Nat} {st : St} : om Try.prog cx lo c37_r4 st = reg st.marks (R2 Try.prog lo o37_4 st.env st.H) := res_run (by kernel_rfl)
noncomputable def c37_r5 : Code := regOf Try.f37 5
noncomputable def o37_5 : List O := [⟨some 12, none, true, .mv (.s 5)⟩,
  ⟨some 13, none, true, .mv (.s 3)⟩,
  ⟨some 14, none, true, .bin .neq 3 (.s 12) (.s 13)⟩]
theorem g37_5 {cx : Ctx} {lo : Nat} {st : St} : om Try.prog cx lo c37_r5 st = reg st.marks (R2 Try.prog lo o37_5 st.env st.H) := res_run (by kernel_rfl)
noncomputable def c37_r6 : Code := regOf Try.f37 6
noncomputable def o37_6 : List O := [⟨some 15, none, true, .mv (.s 5)⟩,
  ⟨some 2, none, true, .mv (.s 15)⟩]
theorem g37_6 {cx : Ctx} {lo : Nat} {st : St} : om Try.prog cx lo c37_r6 st = reg st.marks (R2 Try.prog lo o37_6 st.env st.H) := res_run (by kernel_rfl)
noncomputable def c37_r7 : Code := regOf Try.f37 7
noncomputable def o37_7 : List O := [⟨some 16, none, true, .bin .add 3 (.s 8) (.v (.int .i64 1))⟩,
  ⟨some 8, none, true, .mv (.s 16)⟩]
theorem g37_7 {cx : Ctx} {lo : Nat} {st : St} : om Try.prog cx lo c37_r7 st = reg st.marks (R2 Try.prog lo o37_7 st.env st.H) := res_run (by kernel_rfl)
noncomputable def c37_b0 : Code := (.seq c37_r3 (.seq (.cond (.tmp 9) .skip (.exit 0)) (.seq (.block 1 (.seq c37_r4 (.seq c37_r5 (.cond (.tmp 14) (.seq c37_r6 .ret) .skip)))) c37_r7)))
noncomputable def c37_l0 : Code := .loop c37_b0
noncomputable def c37_r8 : Code := regOf Try.f37 8
noncomputable def o37_8 : List O := [⟨some 17, none, true, .mv (.s 3)⟩,
  ⟨some 2, none, true, .mv (.s 17)⟩]
theorem g37_8 {cx : Ctx} {lo : Nat} {st : St} : om Try.prog cx lo c37_r8 st = reg st.marks (R2 Try.prog lo o37_8 st.env st.H) := res_run (by kernel_rfl)
noncomputable def c37 : Code := (.seq c37_r0 (.seq c37_r1 (.seq (.seq c37_r2 (.block 0 c37_l0)) (.seq c37_r8 .ret))))
theorem c37_body : Try.f37.body = some c37 := by kernel_rfl
theorem c37_in (x0 : AV) (lo : Nat) (H : Heap) : ∃ e : List AV, e.length = 18 ∧ gd e 0 = x0 ∧ callA Try.prog (om Try.prog) lo 37 [x0] H = fin Try.prog (AV.rfL [x0]) [.tmp 2] H (om Try.prog ⟨37, none⟩ (if AV.rfL [x0] then H.next else lo) c37 ⟨e, [], H⟩) := by
  obtain ⟨e, h1, h2, h3⟩ := call_in (P := Try.prog) (lo := lo) (f := 37) (args := [x0]) (H := H) Try.func37 c37_body rfl
  exact ⟨e, h1, h2 0 (by simp), h3⟩
noncomputable def c38_r0 : Code := regOf Try.f38 0
noncomputable def o38_0 : List O := [⟨some 4, none, true, .mv (.v (.int .i64 0))⟩]
theorem g38_0 {cx : Ctx} {lo : Nat} {st : St} : om Try.prog cx lo c38_r0 st = reg st.marks (R2 Try.prog lo o38_0 st.env st.H) := res_run (by kernel_rfl)
noncomputable def c38_r1 : Code := regOf Try.f38 1
noncomputable def o38_1 : List O := [⟨some 7, none, true, .mv (.s 0)⟩,
  ⟨some 8, none, false, .call 39 [(.s 7)]⟩,
  ⟨some 5, none, true, .mv (.s 8)⟩]
theorem g38_1 {cx : Ctx} {lo : Nat} {st : St} : om Try.prog cx lo c38_r1 st = reg st.marks (R2 Try.prog lo o38_1 st.env st.H) := res_run (by kernel_rfl)
noncomputable def c38_r2 : Code := regOf Try.f38 2
noncomputable def o38_2 : List O := [⟨some 9, none, true, .mv (.s 1)⟩,
  ⟨some 10, none, false, .call 39 [(.s 9)]⟩,
  ⟨some 6, none, true, .mv (.s 10)⟩]
theorem g38_2 {cx : Ctx} {lo : Nat} {st : St} : om Try.prog cx lo c38_r2 st = reg st.marks (R2 Try.prog lo o38_2 st.env st.H) := res_run (by kernel_rfl)
noncomputable def c38_r3 : Code := regOf Try.f38 3
noncomputable def o38_3 : List O := [⟨some 11, none, true, .mv (.s 5)⟩]
theorem g38_3 {cx : Ctx} {lo : Nat} {st : St} : om Try.prog cx lo c38_r3 st = reg st.marks (R2 Try.prog lo o38_3 st.env st.H) := res_run (by kernel_rfl)
noncomputable def c38_r4 : Code := regOf Try.f38 4
noncomputable def o38_4 : List O := [⟨some 12, none, true, .mv (.s 6)⟩]
theorem g38_4 {cx : Ctx} {lo : Nat} {st : St} : om Try.prog cx lo c38_r4 st = reg st.marks (R2 Try.prog lo o38_4 st.env st.H) := res_run (by kernel_rfl)
noncomputable def c38_r5 : Code := regOf Try.f38 5
noncomputable def o38_5 : List O := [⟨some 4, none, true, .mv (.v (.int .i64 0))⟩]
theorem g38_5 {cx : Ctx} {lo : Nat} {st : St} : om Try.prog cx lo c38_r5 st = reg st.marks (R2 Try.prog lo o38_5 st.env st.H) := res_run (by kernel_rfl)
noncomputable def c38_r6 : Code := regOf Try.f38 6
noncomputable def o38_6 : List O := [⟨some 4, none, true, .mv (.v (.int .i64 (-1)))⟩]
theorem g38_6 {cx : Ctx} {lo : Nat} {st : St} : om Try.prog cx lo c38_r6 st = reg st.marks (R2 Try.prog lo o38_6 st.env st.H) := res_run (by kernel_rfl)
noncomputable def c38_r7 : Code := regOf Try.f38 7
noncomputable def o38_7 : List O := [⟨some 13, none, true, .mv (.s 6)⟩]
theorem g38_7 {cx : Ctx} {lo : Nat} {st : St} : om Try.prog cx lo c38_r7 st = reg st.marks (R2 Try.prog lo o38_7 st.env st.H) := res_run (by kernel_rfl)
noncomputable def c38_r8 : Code := regOf Try.f38 8
noncomputable def o38_8 : List O := [⟨some 4, none, true, .mv (.v (.int .i64 1))⟩]
theorem g38_8 {cx : Ctx} {lo : Nat} {st : St} : om Try.prog cx lo c38_r8 st = reg st.marks (R2 Try.prog lo o38_8 st.env st.H) := res_run (by kernel_rfl)
noncomputable def c38_r9 : Code := regOf Try.f38 9
noncomputable def o38_9 : List O := [⟨some 14, none, true, .mv (.s 0)⟩,
  ⟨some 15, none, true, .mv (.s 1)⟩,
  ⟨some 16, none, true, .bin .lss 3 (.s 14) (.s 15)⟩]
theorem g38_9 {cx : Ctx} {lo : Nat} {st : St} : om Try.prog cx lo c38_r9 st = reg st.marks (R2 Try.prog lo o38_9 st.env st.H) := res_run (by kernel_rfl)
noncomputable def c38_r10 : Code := regOf Try.f38 10
noncomputable def o38_10 : List O := [⟨some 4, none, true, .mv (.v (.int .i64 (-1)))⟩]
theorem g38_10 {cx : Ctx} {lo : Nat} {st : St} : om Try.prog cx lo c38_r10 st = reg st.marks (R2 Try.prog lo o38_10 st.env st.H) := res_run (by kernel_rfl)
noncomputable def c38_r11 : Code := regOf Try.f38 11
noncomputable def o38_11 : List O := [⟨some 17, none, true, .mv (.s 0)⟩,
  ⟨some 18, none, true, .mv (.s 1)⟩,
  ⟨some 19, none, true, .bin .gtr 3 (.s 17) (.s 18)⟩]
theorem g38_11 {cx : Ctx} {lo : Nat} {st : St} : om Try.prog cx lo c38_r11 st = reg st.marks (R2 Try.prog lo o38_11 st.env st.H) := res_run (by kernel_rfl)
noncomputable def c38_r12 : Code := regOf Try.f38 12
noncomputable def o38_12 : List O := [⟨some 4, none, true, .mv (.v (.int .i64 1))⟩]
theorem g38_12 {cx : Ctx} {lo : Nat} {st : St} : om Try.prog cx lo c38_r12 st = reg st.marks (R2 Try.prog lo o38_12 st.env st.H) := res_run (by kernel_rfl)
noncomputable def c38_r13 : Code := regOf Try.f38 13
noncomputable def o38_13 : List O := [⟨some 4, none, true, .mv (.v (.int .i64 0))⟩]
theorem g38_13 {cx : Ctx} {lo : Nat} {st : St} : om Try.prog cx lo c38_r13 st = reg st.marks (R2 Try.prog lo o38_13 st.env st.H) := res_run (by kernel_rfl)
noncomputable def c38 : Code := (.seq c38_r0 (.seq c38_r1 (.seq c38_r2 (.seq (.seq c38_r3 (.cond (.tmp 11) (.seq (.seq c38_r4 (.cond (.tmp 12) (.seq c38_r5 .ret) .skip)) (.seq c38_r6 .ret)) .skip)) (.seq (.seq c38_r7 (.cond (.tmp 13) (.seq c38_r8 .ret) .skip)) (.seq (.seq c38_r9 (.cond (.tmp 16) (.seq c38_r10 .ret) .skip)) (.seq (.seq c38_r11 (.cond (.tmp 19) (.seq c38_r12 .ret) .skip)) (.seq c38_r13 .ret))))))))
theorem c38_body : Try.f38.body = some c38 := by kernel_rfl
theorem c38_in (x0 x1 : AV) (lo : Nat) (H : Heap) : ∃ e : List AV, e.length = 20 ∧ gd e 0 = x0 ∧ gd e 1 = x1 ∧ callA Try.prog (om Try.prog) lo 38 [x0, x1] H = fin Try.prog (AV.rfL [x0, x1]) [.tmp 4] H (om Try.prog ⟨38, none⟩ (if AV.rfL [x0, x1] then H.next else lo) c38 ⟨e, [], H⟩) := by
  obtain ⟨e, h1, h2, h3⟩ := call_in (P := Try.prog) (lo := lo) (f := 38) (args := [x0, x1]) (H := H) Try.func38 c38_body rfl
  exact ⟨e, h1, h2 0 (by simp), h2 1 (by simp), h3⟩
noncomputable def c39_r0 : Code := regOf Try.f39 0
noncomputable def o39_0 : List O := [⟨some 2, none, true, .mv (.v (.bool false))⟩]
theorem g39_0 {cx : Ctx} {lo : Nat} {st : St} : om Try.prog cx lo c39_r0 st = reg st.marks (R2 Try.prog lo o39_0 st.env st.H) := res_run (by kernel_rfl)
noncomputable def c39_r1 : Code := regOf Try.f39 1
noncomputable def o39_1 : List O := [⟨some 3, none, true, .mv (.s 0)⟩,
  ⟨some 4, none, true, .mv (.s 0)⟩,
  ⟨some 5, none, true, .bin .neq 3 (.s 3) (.s 4)⟩,
  ⟨some 2, none, true, .mv (.s 5)⟩]
theorem g39_1 {cx : Ctx} {lo : Nat} {st : St} : om Try.prog cx lo c39_r1 st = reg st.marks (R2 Try.prog lo o39_1 st.env st.H) := res_run (by kernel_rfl)
noncomputable def c39 : Code := (.seq c39_r0 (.seq c39_r1 .ret))
theorem c39_body : Try.f39.body = some c39 := by kernel_rfl
theorem c39_in (x0 : AV) (lo : Nat) (H : Heap) : ∃ e : List AV, e.length = 6 ∧ gd e 0 = x0 ∧ callA Try.prog (om Try.prog) lo 39 [x0] H = fin Try.prog (AV.rfL [x0]) [.tmp 2] H (om Try.prog ⟨39, none⟩ (if AV.rfL [x0] then H.next else lo) c39 ⟨e, [], H⟩) := by
  obtain ⟨e, h1, h2, h3⟩ := call_in (P := Try.prog) (lo := lo) (f := 39) (args := [x0]) (H := H) Try.func39 c39_body rfl
  exact ⟨e, h1, h2 0 (by simp), h3⟩
end Go.Proofs.Ytejmfbeiejlgkaa.obj
