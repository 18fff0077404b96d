/- What the law's proof leans on, part 16. Conditions: in each statement. -/
import Derived.Test.YtibehelnfbcnjaaGreatDoorQVN
set_option linter.all false
namespace Go.Proofs.YtibehelnfbcnjaaGreatDoor.v
open Go Go.Ab
set_option maxRecDepth 100000
set_option maxHeartbeats 4000000
set_option linter.unusedSimpArgs false
set_option linter.unusedVariables false
theorem t4 : type_of% (by have h := tf (zbc Tryz.f4 4 [0, 1, 2, 3, 4, 5, 6]); conv at h => { lhs; cbv }; exact h) := by kernel_rfl
theorem n4 : type_of% (by have h := zaa t4; simp only [RDs, ba0, ba1] at h; exact h) := zaa t4
theorem t4_1 : type_of% (by have h := tf (tab Tryz.f4 4 [7]); conv at h => { lhs; cbv }; exact h) := by kernel_rfl
theorem n4_1 : type_of% (by have h := zak t4_1; simp only [RDs, ba0, ba1] at h; exact h) := zak t4_1
theorem d4 : CD Tryz.f4 fun r l a => (.seq (r 0) (.seq (.seq (r 1) (.cond (.tmp 32) (.seq (r 2) .ret) .skip)) (.seq (r 3) (.seq (r 4) (.seq (r 5) (.seq (r 6) (.seq (r 7) .ret))))))) := cek
theorem yaxx : RI Tryz.prog 4 Tryz.f4 77 [.tmp 8] := rik Tryz.func4
theorem t6 : type_of% (by have h := tf (zbc Tryz.f6 6 [0, 1, 2, 3, 4, 6, 7]); conv at h => { lhs; cbv }; exact h) := by kernel_rfl
theorem n6 : type_of% (by have h := zaa t6; simp only [RDs, ba0, ba1] at h; exact h) := zaa t6
theorem t6_1 : type_of% (by have h := tf (tab Tryz.f6 6 [5, 8, 9, 11, 12, 13, 14, 15]); conv at h => { lhs; cbv }; exact h) := by kernel_rfl
theorem zmj : type_of% (by have h := zak t6_1; simp only [RDs, ba0, ba1] at h; exact h) := zak t6_1
theorem t6_2 : type_of% (by have h := tf (tab Tryz.f6 6 [17, 18, 16, 19, 20, 22, 23, 21]); conv at h => { lhs; cbv }; exact h) := by kernel_rfl
theorem zmk : type_of% (by have h := zak t6_2; simp only [RDs, ba0, ba1] at h; exact h) := zak t6_2
theorem t6_3 : type_of% (by have h := tf (tab Tryz.f6 6 [10, 24]); conv at h => { lhs; cbv }; exact h) := by kernel_rfl
theorem zml : type_of% (by have h := zak t6_3; simp only [RDs, ba0, ba1] at h; exact h) := zak t6_3
theorem e6 : CX Tryz.f6 fun r l a => CE Tryz.prog (l 0) (.seq (.seq (r 4) (.cond (.tmp 40) .skip (.exit 0))) (.seq (.block 1 (.seq (r 6) (.cond (.tmp 60) (.seq (r 7) .ret) .skip))) (r 5))) ∧
 CE Tryz.prog (l 2) (.seq (.seq (r 15) (.cond (.tmp 93) .skip (.exit 4))) (.seq (.block 5 (.seq (r 17) (.cond (.tmp 113) (.seq (r 18) .ret) .skip))) (r 16))) ∧
 CE Tryz.prog (l 3) (.seq (.seq (r 20) (.cond (.tmp 118) .skip (.exit 6))) (.seq (.block 7 (.seq (r 22) (.cond (.tmp 145) (.seq (r 23) .ret) .skip))) (r 21))) ∧
 CE Tryz.prog (l 1) (.seq (.seq (r 9) (.cond (.tmp 65) .skip (.exit 2))) (.seq (.block 3 (.seq (r 11) (.seq (.seq (r 12) (.cond (.tmp 88) (.seq (r 13) .ret) .skip)) (.seq (.seq (r 14) (.block 4 (.loop (l 2)))) (.seq (r 19) (.block 6 (.loop (l 3)))))))) (r 10))) := ⟨cek, cek, cek, cek⟩
theorem d6 : CD Tryz.f6 fun r l a => (.seq (r 0) (.seq (.seq (r 1) (.cond (.tmp 35) (.seq (r 2) .ret) .skip)) (.seq (.seq (r 3) (.block 0 (.loop (l 0)))) (.seq (.seq (r 8) (.block 2 (.loop (l 1)))) (.seq (r 24) .ret))))) := cek
theorem yaxy : RI Tryz.prog 6 Tryz.f6 149 [.tmp 2] := rik Tryz.func6
theorem t15 : type_of% (by have h := tf (zbc Tryz.f15 15 [0, 1, 2, 3, 4, 6, 7, 5, 8]); conv at h => { lhs; cbv }; exact h) := by kernel_rfl
theorem n15 : type_of% (by have h := zaa t15; simp only [RDs, ba0, ba1] at h; exact h) := zaa t15
theorem e15 : CX Tryz.f15 fun r l a => CE Tryz.prog (l 0) (.seq (.seq (r 4) (.cond (.tmp 10) .skip (.exit 0))) (.seq (.block 1 (.seq (r 6) (.cond (.tmp 19) (.seq (r 7) .ret) .skip))) (r 5))) := cek
theorem d15 : CD Tryz.f15 fun r l a => (.seq (r 0) (.seq (.seq (r 1) (.cond (.tmp 6) (.seq (r 2) .ret) .skip)) (.seq (.seq (r 3) (.block 0 (.loop (l 0)))) (.seq (r 8) .ret)))) := cek
theorem yarc : RI Tryz.prog 15 Tryz.f15 20 [.tmp 2] := rik Tryz.func15
theorem t16 : type_of% (by have h := tf (zbc Tryz.f16 16 [0, 1, 2, 3, 4, 5, 6, 7, 8, 9, 10, 11, 12, 14]); conv at h => { lhs; cbv }; exact h) := by kernel_rfl
theorem n16 : type_of% (by have h := zaa t16; simp only [RDs, ba0, ba1] at h; exact h) := zaa t16
theorem yavw : type_of% (by have h := tf (tab Tryz.f16 16 [15, 16, 17]); conv at h => { lhs; cbv }; exact h) := by kernel_rfl
theorem zts : type_of% (by have h := zak yavw; simp only [RDs, ba0, ba1] at h; exact h) := zak yavw
theorem zll : RL Tryz.prog Tryz.f16 16 13 [2, 7, 10, 23, 24, 25] none [(11, 7)] [(oo 34 (.ld (some 32) (.s 7)), [], []), (oo 35 (.ld (some 7) (.s 2)), [], []), (oo 36 (.fa 6 (.s 2)), [], []), (oo 37 (.ld none (.s 36)), [], []), (oo 38 (.mv (.s 9)), [], []), (oo 39 (.ixs 9 (.s 37) (.s 38)), [], []), (oo 40 (.ld (some 9) (.s 39)), [], []), (oo 41 (.call 29 [(.s 34), (.s 35), (.s 40)]), [], []), (oo 33 (.mv (.s 41)), [], []), (oo 42 (.ext 0 (.s 33)), [], []), (oo 43 (.ext 1 (.s 33)), [11], []), (on (.st 32 (.s 7) (.s 42)), [], [])] [oo 10 (.mv (.s 43))] := rlk
theorem e16 : CX Tryz.f16 fun r l a => CE Tryz.prog (l 0) (.seq (r 8) (.seq (.cond (.tmp 26) .skip (.exit 0)) (.seq (.block 1 (.seq (r 9) (.seq (.seq (r 10) (.cond (.tmp 30) (.seq (r 11) (.exit 1)) .skip)) (.seq (r 12) (.seq (r 13) (.seq (r 14) (.cond (.tmp 45) (.seq (r 15) .ret) .skip))))))) (r 16)))) := cek
theorem d16 : CD Tryz.f16 fun r l a => (.seq (r 0) (.seq (r 1) (.seq (.seq (r 2) (.cond (.tmp 14) (r 3) .skip)) (.seq (.seq (r 4) (.cond (.tmp 21) (.seq (r 5) .ret) .skip)) (.seq (r 6) (.seq (.seq (r 7) (.block 0 (.loop (l 0)))) (.seq (r 17) .ret))))))) := cek
theorem yard : RI Tryz.prog 16 Tryz.f16 47 [.tmp 4, .tmp 5] := rik Tryz.func16
theorem t17 : type_of% (by have h := tf (zbc Tryz.f17 17 [0, 1, 2, 3, 4, 5]); conv at h => { lhs; cbv }; exact h) := by kernel_rfl
theorem n17 : type_of% (by have h := zaa t17; simp only [RDs, ba0, ba1] at h; exact h) := zaa t17
theorem d17 : CD Tryz.f17 fun r l a => (.seq (r 0) (.seq (.seq (r 1) (.cond (.tmp 8) (.seq (r 2) .ret) .skip)) (.seq (.seq (r 3) (.cond (.tmp 16) (.seq (r 4) .ret) .skip)) (.seq (r 5) .ret)))) := cek
theorem yare : RI Tryz.prog 17 Tryz.f17 26 [.tmp 4, .tmp 5] := rik Tryz.func17
theorem t18 : type_of% (by have h := tf (zbc Tryz.f18 18 [0, 1, 2, 3, 4, 5, 6, 7, 8, 9, 10, 11, 12]); conv at h => { lhs; cbv }; exact h) := by kernel_rfl
theorem n18 : type_of% (by have h := zaa t18; simp only [RDs, ba0, ba1] at h; exact h) := zaa t18
theorem yavx : type_of% (by have h := tf (tab Tryz.f18 18 [13, 14, 15, 16, 17, 18, 19, 20, 21, 22, 24]); conv at h => { lhs; cbv }; exact h) := by kernel_rfl
theorem zd5 : type_of% (by have h := zak yavx; simp only [RDs, ba0, ba1] at h; exact h) := zak yavx
theorem yavy : type_of% (by have h := tf (tab Tryz.f18 18 [23, 25, 26, 27]); conv at h => { lhs; cbv }; exact h) := by kernel_rfl
theorem zd6 : type_of% (by have h := zak yavy; simp only [RDs, ba0, ba1] at h; exact h) := zak yavy
theorem e18 : CX Tryz.f18 fun r l a => CE Tryz.prog (l 0) (.seq (r 7) (.seq (.cond (.tmp 28) .skip (.exit 1)) (.seq (.block 2 (.seq (r 8) (.seq (r 9) (.seq (r 10) (.cond (.tmp 35) (.seq (r 11) .ret) .skip))))) (r 12)))) ∧
 CE Tryz.prog (l 2) (.seq (.seq (r 22) (.cond (.tmp 72) .skip (.exit 5))) (.seq (.block 6 (r 24)) (r 23))) ∧
 CE Tryz.prog (l 1) (.seq (r 18) (.seq (.cond (.tmp 51) .skip (.exit 3)) (.seq (.block 4 (.seq (r 19) (.seq (.seq (r 20) (.cond (.tmp 66) (.seq (r 21) .ret) .skip)) (.seq (.block 5 (.loop (l 2))) (r 25))))) (r 26)))) := ⟨cek, cek, cek⟩
theorem d18 : CD Tryz.f18 fun r l a => (.seq (r 0) (.seq (r 1) (.seq (.block 0 (.seq (r 2) (.cond (.tmp 17) (.seq (r 3) .ret) (.seq (r 4) (.cond (.tmp 21) (.seq (r 5) .ret) .skip))))) (.seq (.seq (r 6) (.block 1 (.loop (l 0)))) (.seq (.seq (r 13) (.cond (.tmp 47) (.seq (r 14) .ret) .skip)) (.seq (r 15) (.seq (r 16) (.seq (.seq (r 17) (.block 3 (.loop (l 1)))) (.seq (r 27) .ret))))))))) := cek
theorem yarf : RI Tryz.prog 18 Tryz.f18 85 [.tmp 6, .tmp 7] := rik Tryz.func18
theorem t19 : type_of% (by have h := tf (zbc Tryz.f19 19 [0, 1, 2, 3, 4, 5, 6, 9, 7, 10, 11, 12, 14, 15]); conv at h => { lhs; cbv }; exact h) := by kernel_rfl
theorem n19 : type_of% (by have h := zaa t19; simp only [RDs, ba0, ba1] at h; exact h) := zaa t19
theorem yavz : type_of% (by have h := tf (tab Tryz.f19 19 [16, 17, 18, 20, 19, 21, 13, 22]); conv at h => { lhs; cbv }; exact h) := by kernel_rfl
theorem zfs : type_of% (by have h := zak yavz; simp only [RDs, ba0, ba1] at h; exact h) := zak yavz
theorem zfo : RS Tryz.prog Tryz.f19 19 8 [1, 2, 8, 58] none [oo 31 (.mv (.s 2)), oo 32 (.mv (.s 8)), oo 33 (.ixs 1 (.s 31) (.s 32)), oo 34 (.ld none (.s 33)), oo 35 (.bin .lss 3 (.s 34) (.v (.int .i64 0))), oo 36 (.mv (.s 35)), og 37 36 false (.mv (.s 2)), og 38 36 false (.mv (.s 8)), og 39 36 false (.ixs 1 (.s 37) (.s 38)), og 40 36 false (.ld none (.s 39)), og 41 36 false (.bin .gtr 3 (.s 40) (.v (.int .i64 4000))), oo 42 (.pick (.s 36) (.v (.bool true)) (.s 41)), oo 43 (.mv (.s 42)), og 44 43 false (.mv (.s 8)), og 45 43 false (.bin .gtr 3 (.s 44) (.v (.int .i64 0))), og 46 43 false (.mv (.s 45)), og 47 46 true (.mv (.s 2)), og 48 46 true (.mv (.s 8)), og 49 46 true (.ixs 1 (.s 47) (.s 48)), og 50 46 true (.ld none (.s 49)), og 51 46 true (.mv (.s 2)), og 52 46 true (.mv (.s 8)), og 53 46 true (.bin .sub 3 (.s 52) (.v (.int .i64 1))), og 54 46 true (.ixs 1 (.s 51) (.s 53)), og 55 46 true (.ld none (.s 54))] [og 56 46 true (.bin .lss 3 (.s 50) (.s 55)), og 57 43 false (.pick (.s 46) (.s 56) (.v (.bool false))), oo 58 (.pick (.s 43) (.v (.bool true)) (.s 57))] := rsk
theorem e19 : CX Tryz.f19 fun r l a => CE Tryz.prog (l 0) (.seq (.seq (r 6) (.cond (.tmp 28) .skip (.exit 0))) (.seq (.block 1 (.seq (r 8) (.cond (.tmp 58) (.seq (r 9) .ret) .skip))) (r 7))) ∧
 CE Tryz.prog (l 2) (.seq (.seq (r 18) (.cond (.tmp 78) .skip (.exit 4))) (.seq (.block 5 (r 20)) (r 19))) ∧
 CE Tryz.prog (l 1) (.seq (.seq (r 12) (.cond (.tmp 62) .skip (.exit 2))) (.seq (.block 3 (.seq (r 14) (.seq (.seq (r 15) (.cond (.tmp 66) (r 16) .skip)) (.seq (.seq (r 17) (.block 4 (.loop (l 2)))) (r 21))))) (r 13))) := ⟨cek, cek, cek⟩
theorem d19 : CD Tryz.f19 fun r l a => (.seq (r 0) (.seq (.seq (r 1) (.cond (.tmp 16) (.seq (r 2) .ret) .skip)) (.seq (.seq (r 3) (.cond (.tmp 24) (.seq (r 4) .ret) .skip)) (.seq (.seq (r 5) (.block 0 (.loop (l 0)))) (.seq (r 10) (.seq (.seq (r 11) (.block 2 (.loop (l 1)))) (.seq (r 22) .ret))))))) := cek
theorem yarg : RI Tryz.prog 19 Tryz.f19 93 [.tmp 6, .tmp 7] := rik Tryz.func19
theorem t20 : type_of% (by have h := tf (zbc Tryz.f20 20 [0, 1, 2, 3, 4, 7, 5, 8]); conv at h => { lhs; cbv }; exact h) := by kernel_rfl
theorem n20 : type_of% (by have h := zaa t20; simp only [RDs, ba0, ba1] at h; exact h) := zaa t20
theorem yacu : RS Tryz.prog Tryz.f20 20 6 [0, 1, 5, 25] none [oo 17 (.mv (.s 0)), oo 18 (.mv (.s 5)), oo 19 (.ixs 1 (.s 17) (.s 18)), oo 20 (.ld none (.s 19)), oo 21 (.mv (.s 1)), oo 22 (.mv (.s 5)), oo 23 (.ixs 1 (.s 21) (.s 22)), oo 24 (.ld none (.s 23))] [oo 25 (.bin .neq 3 (.s 20) (.s 24))] := rsk
theorem e20 : CX Tryz.f20 fun r l a => CE Tryz.prog (l 0) (.seq (.seq (r 4) (.cond (.tmp 14) .skip (.exit 0))) (.seq (.block 1 (.seq (r 6) (.cond (.tmp 25) (.seq (r 7) .ret) .skip))) (r 5))) := cek
theorem d20 : CD Tryz.f20 fun r l a => (.seq (r 0) (.seq (.seq (r 1) (.cond (.tmp 10) (.seq (r 2) .ret) .skip)) (.seq (.seq (r 3) (.block 0 (.loop (l 0)))) (.seq (r 8) .ret)))) := cek
theorem yaj3 : RI Tryz.prog 20 Tryz.f20 26 [.tmp 4] := rik Tryz.func20
theorem t24 : type_of% (by have h := tf (zbc Tryz.f24 24 [0, 1, 2]); conv at h => { lhs; cbv }; exact h) := by kernel_rfl
theorem n24 : type_of% (by have h := zaa t24; simp only [RDs, ba0, ba1] at h; exact h) := zaa t24
theorem d24 : CD Tryz.f24 fun r l a => (.seq (r 0) (.seq (r 1) (.seq (r 2) .ret))) := cek
theorem yarh : RI Tryz.prog 24 Tryz.f24 20 [.tmp 2] := rik Tryz.func24
theorem t25 : type_of% (by have h := tf (zbc Tryz.f25 25 [0, 1, 2, 3, 5, 6, 8, 7, 4, 10]); conv at h => { lhs; cbv }; exact h) := by kernel_rfl
theorem n25 : type_of% (by have h := zaa t25; simp only [RDs, ba0, ba1] at h; exact h) := zaa t25
theorem yacv : RS Tryz.prog Tryz.f25 25 9 [1, 3, 4, 5] none [oo 34 (.mv (.s 3)), oo 35 (.fa 3 (.s 6)), oo 36 (.ld (some 6) (.s 35)), oo 37 (.call 51 [(.s 36)]), oo 38 (.fa 9 (.s 6)), oo 39 (.ld (some 6) (.s 38)), oo 40 (.call 51 [(.s 39)]), oo 41 (.bin .add 3 (.s 37) (.s 40)), oo 42 (.fa 15 (.s 6)), oo 43 (.ld (some 6) (.s 42)), oo 44 (.call 51 [(.s 43)]), oo 45 (.bin .add 3 (.s 41) (.s 44))] [oo 46 (.bin .add 3 (.s 34) (.s 45)), oo 3 (.mv (.s 46))] := rsk
theorem e25 : CX Tryz.f25 fun r l a => CE Tryz.prog (l 1) (.seq (.seq (r 6) (.cond (.tmp 22) .skip (.exit 2))) (.seq (.block 3 (.seq (r 8) (r 9))) (r 7))) ∧
 CE Tryz.prog (l 0) (.seq (.seq (r 3) (.cond (.tmp 11) .skip (.exit 0))) (.seq (.block 1 (.seq (r 5) (.block 2 (.loop (l 1))))) (r 4))) := ⟨cek, cek⟩
theorem d25 : CD Tryz.f25 fun r l a => (.seq (r 0) (.seq (r 1) (.seq (.seq (r 2) (.block 0 (.loop (l 0)))) (.seq (r 10) .ret)))) := cek
theorem yari : RI Tryz.prog 25 Tryz.f25 48 [.tmp 2] := rik Tryz.func25
theorem t26 : type_of% (by have h := tf (zbc Tryz.f26 26 [0, 1, 2, 3, 5, 6, 7, 8, 9, 10, 11, 12, 13, 14]); conv at h => { lhs; cbv }; exact h) := by kernel_rfl
theorem n26 : type_of% (by have h := zaa t26; simp only [RDs, ba0, ba1] at h; exact h) := zaa t26
theorem yav0 : type_of% (by have h := tf (tab Tryz.f26 26 [15, 16, 17, 18]); conv at h => { lhs; cbv }; exact h) := by kernel_rfl
theorem zi7 : type_of% (by have h := zak yav0; simp only [RDs, ba0, ba1] at h; exact h) := zak yav0
theorem zi3 : RL Tryz.prog Tryz.f26 26 4 [1, 3] none [] [(oo 13 (.mv (.s 3)), [], []), (oo 14 (.fa 0 (.s 1)), [], []), (oo 15 (.ld none (.s 14)), [], []), (oo 16 (.call 54 [(.s 15)]), [], []), (oo 17 (.fa 1 (.s 1)), [], [3]), (oo 18 (.ld none (.s 17)), [], [3]), (oo 19 (.call 55 [(.s 18), (.v (.int .i64 1)), (.v (.int .i64 4))]), [], []), (oo 20 (.fa 2 (.s 1)), [], [3, 6]), (oo 21 (.ld none (.s 20)), [], [3, 6]), (oo 22 (.bin .eql 3 (.s 21) (.v (.int .i64 16))), [], [3, 6]), (oo 23 (.mv (.s 22)), [], []), (og 24 23 false (.fa 2 (.s 1)), [], []), (og 25 23 false (.ld none (.s 24)), [], []), (og 26 23 false (.bin .eql 3 (.s 25) (.v (.int .i64 32))), [], []), (oo 27 (.pick (.s 23) (.v (.bool true)) (.s 26)), [], []), (oo 28 (.bsl 4 1 [(.bool false), (.bool false), (.bool false)] 3 [(0, (.s 16)), (1, (.s 19)), (2, (.s 27))]), [], [])] [oo 29 (.call 53 [(.s 13), (.s 28)])] := rlk
theorem e26 : CX Tryz.f26 fun r l a => CE Tryz.prog (l 0) (.seq (r 10) (.seq (.cond (.tmp 40) .skip (.exit 0)) (.seq (.block 1 (.seq (r 11) (.seq (.seq (r 12) (.cond (.tmp 47) (.exit 0) .skip)) (.seq (r 13) (r 14))))) (r 15)))) := cek
theorem d26 : CD Tryz.f26 fun r l a => (.seq (r 0) (.seq (.seq (r 1) (.cond (.tmp 9) (.seq (r 2) .ret) .skip)) (.seq (r 3) (.seq (r 4) (.seq (r 5) (.seq (r 6) (.seq (r 7) (.seq (r 8) (.seq (.seq (r 9) (.block 0 (.loop (l 0)))) (.seq (.seq (r 16) (.cond (.tmp 62) (.seq (r 17) .ret) .skip)) (.seq (r 18) .ret))))))))))) := cek
theorem yarj : RI Tryz.prog 26 Tryz.f26 63 [.tmp 2] := rik Tryz.func26
theorem t28 : type_of% (by have h := tf (zbc Tryz.f28 28 [0, 1, 2, 3, 4, 5, 6, 8, 9, 10]); conv at h => { lhs; cbv }; exact h) := by kernel_rfl
theorem n28 : type_of% (by have h := zaa t28; simp only [RDs, ba0, ba1] at h; exact h) := zaa t28
theorem yaez : zux Tryz.prog 89 = some (some 32) := by kernel_rfl
theorem yacw : RS Tryz.prog Tryz.f28 28 7 [1, 2, 3, 5, 8] none [oo 11 (.mv (.s 3)), oo 12 (.mv (.s 4)), oo 13 (.mv (.s 3)), oo 14 (.mv (.s 4)), oo 15 (.raw (.indexAddr 89 (.tmp 1) (.tmp 13))), oo 16 (.raw (.indexAddr 87 (.tmp 15) (.tmp 14))), oo 17 (.ld none (.s 16)), oo 18 (.bin .sub 86 (.s 17) (.v (.int .i8 1))), oo 19 (.mx (.v (.int .i8 0)) [(.s 18)]), oo 20 (.raw (.indexAddr 89 (.tmp 1) (.tmp 11)))] [oo 21 (.raw (.indexAddr 87 (.tmp 20) (.tmp 12))), on (.st 1 (.s 21) (.s 19))] := rsk
theorem e28 : CX Tryz.f28 fun r l a => CE Tryz.prog (l 1) (.seq (r 5) (.seq (.cond (.tmp 9) .skip (.exit 2)) (.seq (.block 3 (.seq (r 6) (r 7))) (r 8)))) ∧
 CE Tryz.prog (l 0) (.seq (r 2) (.seq (.cond (.tmp 6) .skip (.exit 0)) (.seq (.block 1 (.seq (r 3) (.seq (r 4) (.block 2 (.loop (l 1)))))) (r 9)))) := ⟨cek, cek⟩
theorem d28 : CD Tryz.f28 fun r l a => (.seq (r 0) (.seq (.seq (r 1) (.block 0 (.loop (l 0)))) (.seq (r 10) .ret))) := cek
theorem yark : RI Tryz.prog 28 Tryz.f28 25 [.cell 2 89] := rik Tryz.func28
theorem t29 : type_of% (by have h := tf (zbc Tryz.f29 29 [0, 2, 3, 4, 5, 6, 8, 10]); conv at h => { lhs; cbv }; exact h) := by kernel_rfl
theorem n29 : type_of% (by have h := zaa t29; simp only [RDs, ba0, ba1] at h; exact h) := zaa t29
theorem yae0 : zux Tryz.prog 89 = some (some 32) := by kernel_rfl
theorem yacx : RS Tryz.prog Tryz.f29 29 1 [3, 5, 6, 8] none [oo 11 (.fa 5 (.s 5)), oo 12 (.ld none (.s 11)), oo 13 (.raw (.indexAddr 89 (.tmp 3) (.tmp 12))), oo 14 (.fa 5 (.s 4)), oo 15 (.ld none (.s 14)), oo 16 (.fa 5 (.s 5)), oo 17 (.ld none (.s 16)), oo 18 (.ixs 2 (.s 15) (.s 17)), oo 19 (.fa 1 (.s 18)), oo 20 (.ld none (.s 19))] [oo 21 (.raw (.slice 87 (.tmp 13) none (some (.tmp 20)) none)), oo 8 (.mv (.s 21))] := rsk
theorem yacy : RS Tryz.prog Tryz.f29 29 7 [3, 6, 8, 10, 51] none [oo 38 (.mv (.s 10)), oo 39 (.bin .gtr 3 (.s 38) (.v (.int .i64 0))), oo 40 (.mv (.s 39)), og 41 40 true (.mv (.s 8)), og 42 40 true (.mv (.s 10)), og 43 40 true (.ixs 1 (.s 41) (.s 42)), og 44 40 true (.ld none (.s 43)), og 45 40 true (.mv (.s 8)), og 46 40 true (.mv (.s 10)), og 47 40 true (.bin .sub 3 (.s 46) (.v (.int .i64 1))), og 48 40 true (.ixs 1 (.s 45) (.s 47)), og 49 40 true (.ld none (.s 48))] [og 50 40 true (.bin .gtr 86 (.s 44) (.s 49)), oo 51 (.pick (.s 40) (.s 50) (.v (.bool false)))] := rsk
theorem yacz : RL Tryz.prog Tryz.f29 29 9 [3, 6, 8, 10] none [(15, 8)] [(oo 54 (.mv (.s 8)), [], []), (oo 55 (.mv (.s 10)), [], []), (oo 56 (.mv (.s 8)), [15], []), (oo 57 (.mv (.s 10)), [15], []), (oo 58 (.bin .sub 3 (.s 57) (.v (.int .i64 1))), [15], []), (oo 59 (.mv (.s 8)), [], []), (oo 60 (.mv (.s 10)), [], []), (oo 61 (.bin .sub 3 (.s 60) (.v (.int .i64 1))), [], []), (oo 62 (.ixs 1 (.s 59) (.s 61)), [], []), (oo 63 (.ld none (.s 62)), [], []), (oo 64 (.mv (.s 8)), [], []), (oo 65 (.mv (.s 10)), [], []), (oo 66 (.ixs 1 (.s 64) (.s 65)), [], []), (oo 67 (.ld none (.s 66)), [], []), (oo 68 (.ixs 1 (.s 54) (.s 55)), [], []), (on (.st 1 (.s 68) (.s 63)), [], [])] [oo 69 (.ixs 1 (.s 56) (.s 58)), on (.st 1 (.s 69) (.s 67))] := rlk
theorem e29 : CX Tryz.f29 fun r l a => CE Tryz.prog (l 0) (.seq (.seq (r 7) (.cond (.tmp 51) .skip (.exit 0))) (.seq (.block 1 (r 9)) (r 8))) := cek
theorem d29 : CD Tryz.f29 fun r l a => (.seq (r 0) (.seq (r 1) (.seq (r 2) (.seq (.seq (r 3) (.cond (.tmp 29) (.seq (r 4) .ret) .skip)) (.seq (r 5) (.seq (.seq (r 6) (.block 0 (.loop (l 0)))) (.seq (r 10) .ret))))))) := cek
theorem yarl : RI Tryz.prog 29 Tryz.f29 71 [.cell 6 89, .tmp 7] := rik Tryz.func29
theorem t30 : type_of% (by have h := tf (zbc Tryz.f30 30 [0, 1, 2, 3, 4, 5, 6, 8]); conv at h => { lhs; cbv }; exact h) := by kernel_rfl
theorem n30 : type_of% (by have h := zaa t30; simp only [RDs, ba0, ba1] at h; exact h) := zaa t30
theorem yav1 : type_of% (by have h := tf (tab Tryz.f30 30 [9, 10, 11, 12, 15, 13, 7, 16]); conv at h => { lhs; cbv }; exact h) := by kernel_rfl
theorem zdt : type_of% (by have h := zak yav1; simp only [RDs, ba0, ba1] at h; exact h) := zak yav1
theorem zb1 : RS Tryz.prog Tryz.f30 30 14 [1, 3, 4, 5, 79] none [oo 71 (.fa 6 (.s 1)), oo 72 (.ld none (.s 71)), oo 73 (.mv (.s 5)), oo 74 (.ixs 9 (.s 72) (.s 73)), oo 75 (.fa 0 (.s 74)), oo 76 (.ld none (.s 75)), oo 77 (.fa 0 (.s 4)), oo 78 (.ld none (.s 77))] [oo 79 (.bin .eql 9 (.s 76) (.s 78))] := rsk
theorem e30 : CX Tryz.f30 fun r l a => CE Tryz.prog (l 1) (.seq (.seq (r 12) (.cond (.tmp 68) .skip (.exit 2))) (.seq (.block 3 (.seq (r 14) (.cond (.tmp 79) (.seq (r 15) .ret) .skip))) (r 13))) ∧
 CE Tryz.prog (l 0) (.seq (.seq (r 6) (.cond (.tmp 48) .skip (.exit 0))) (.seq (.block 1 (.seq (r 8) (.seq (.seq (r 9) (.cond (.tmp 65) (.seq (r 10) .ret) .skip)) (.seq (r 11) (.block 2 (.loop (l 1))))))) (r 7))) := ⟨cek, cek⟩
theorem d30 : CD Tryz.f30 fun r l a => (.seq (r 0) (.seq (.seq (r 1) (.cond (.tmp 8) (.seq (r 2) .ret) .skip)) (.seq (.seq (r 3) (.cond (.tmp 43) (.seq (r 4) .ret) .skip)) (.seq (.seq (r 5) (.block 0 (.loop (l 0)))) (.seq (r 16) .ret))))) := cek
theorem yarm : RI Tryz.prog 30 Tryz.f30 80 [.tmp 2] := rik Tryz.func30
theorem t34 : type_of% (by have h := tf (zbc Tryz.f34 34 [0, 1, 2, 3, 4, 5, 6, 7, 8, 9]); conv at h => { lhs; cbv }; exact h) := by kernel_rfl
theorem n34 : type_of% (by have h := zaa t34; simp only [RDs, ba0, ba1] at h; exact h) := zaa t34
theorem e34 : CX Tryz.f34 fun r l a => CE Tryz.prog (l 0) (.seq (r 4) (.seq (.cond (.tmp 13) .skip (.exit 0)) (.seq (.block 1 (.seq (r 5) (.seq (r 6) (.cond (.tmp 22) (.seq (r 7) .ret) .skip)))) (r 8)))) := cek
theorem d34 : CD Tryz.f34 fun r l a => (.seq (r 0) (.seq (.seq (r 1) (.cond (.tmp 9) (.seq (r 2) .ret) .skip)) (.seq (.seq (r 3) (.block 0 (.loop (l 0)))) (.seq (r 9) .ret)))) := cek
theorem yarn : RI Tryz.prog 34 Tryz.f34 24 [.tmp 4] := rik Tryz.func34
theorem t35 : type_of% (by have h := tf (zbc Tryz.f35 35 [0, 1, 2, 3, 4, 6, 7, 5, 8]); conv at h => { lhs; cbv }; exact h) := by kernel_rfl
theorem n35 : type_of% (by have h := zaa t35; simp only [RDs, ba0, ba1] at h; exact h) := zaa t35
theorem e35 : CX Tryz.f35 fun r l a => CE Tryz.prog (l 0) (.seq (.seq (r 4) (.cond (.tmp 12) .skip (.exit 0))) (.seq (.block 1 (.seq (r 6) (.cond (.tmp 27) (.seq (r 7) .ret) .skip))) (r 5))) := cek
theorem d35 : CD Tryz.f35 fun r l a => (.seq (r 0) (.seq (.seq (r 1) (.cond (.tmp 8) (.seq (r 2) .ret) .skip)) (.seq (.seq (r 3) (.block 0 (.loop (l 0)))) (.seq (r 8) .ret)))) := cek
theorem yaro : RI Tryz.prog 35 Tryz.f35 28 [.tmp 4] := rik Tryz.func35
theorem t37 : type_of% (by have h := tf (zbc Tryz.f37 37 [0, 1, 2, 3, 4, 5, 7, 6, 8]); conv at h => { lhs; cbv }; exact h) := by kernel_rfl
theorem n37 : type_of% (by have h := zaa t37; simp only [RDs, ba0, ba1] at h; exact h) := zaa t37
theorem e37 : CX Tryz.f37 fun r l a => CE Tryz.prog (l 0) (.seq (.seq (r 5) (.cond (.tmp 15) .skip (.exit 0))) (.seq (.block 1 (r 7)) (r 6))) := cek
theorem d37 : CD Tryz.f37 fun r l a => (.seq (r 0) (.seq (.seq (r 1) (.cond (.tmp 7) (r 2) .skip)) (.seq (r 3) (.seq (.seq (r 4) (.block 0 (.loop (l 0)))) (.seq (r 8) .ret))))) := cek
theorem yarp : RI Tryz.prog 37 Tryz.f37 25 [.tmp 2] := rik Tryz.func37
theorem t38 : type_of% (by have h := tf (zbc Tryz.f38 38 [0, 1, 2, 3, 4, 6, 7, 8, 9, 5, 10, 11, 14, 15]); conv at h => { lhs; cbv }; exact h) := by kernel_rfl
theorem n38 : type_of% (by have h := zaa t38; simp only [RDs, ba0, ba1] at h; exact h) := zaa t38
theorem yav2 : type_of% (by have h := tf (tab Tryz.f38 38 [19, 16, 20, 21, 12, 22]); conv at h => { lhs; cbv }; exact h) := by kernel_rfl
theorem zhf : type_of% (by have h := zak yav2; simp only [RDs, ba0, ba1] at h; exact h) := zak yav2
theorem zdl : RS Tryz.prog Tryz.f38 38 13 [2, 5, 6, 9, 10, 11] none [oo 44 (.fa 6 (.s 2)), oo 45 (.ld none (.s 44)), oo 46 (.mv (.s 6)), oo 47 (.mv (.s 9)), oo 48 (.ixs 1 (.s 46) (.s 47)), oo 49 (.ld none (.s 48))] [oo 50 (.ixs 9 (.s 45) (.s 49)), oo 51 (.fa 5 (.s 50)), oo 52 (.ld none (.s 51)), oo 10 (.mv (.s 52)), oo 11 (.mv (.v (.int .i64 0)))] := rsk
theorem zdm : RL Tryz.prog Tryz.f38 38 17 [2, 5, 6, 9, 10, 11, 12, 13] none [] [(oo 58 (.fa 6 (.s 2)), [], []), (oo 59 (.ld none (.s 58)), [], []), (oo 60 (.mv (.s 6)), [], []), (oo 61 (.mv (.s 12)), [], []), (oo 62 (.ixs 1 (.s 60) (.s 61)), [], []), (oo 63 (.ld none (.s 62)), [], []), (oo 64 (.ixs 9 (.s 59) (.s 63)), [], []), (oo 65 (.ld (some 9) (.s 64)), [], []), (oo 13 (.new 69 [(.str ByteArray.empty), (.int .u64 0), (.int .u64 0), (.rsl none 0 0 []), (.rsl none 0 0 []), (.int .i64 0), (.int .i64 0), (.int .i64 0), (.int .i64 0)]), [], [])] [on (.st 9 (.s 13) (.s 65))] := rlk
theorem zdn : RS Tryz.prog Tryz.f38 38 18 [2, 5, 6, 9, 10, 11, 12, 83] none [oo 66 (.fa 5 (.s 13)), oo 67 (.ld none (.s 66)), oo 68 (.mv (.s 10)), oo 69 (.bin .eql 3 (.s 67) (.s 68)), oo 70 (.mv (.s 69)), og 71 70 true (.mv (.s 5)), og 72 70 true (.mv (.s 12)), og 73 70 true (.ixs 1 (.s 71) (.s 72)), og 74 70 true (.ld none (.s 73)), og 75 70 true (.fa 6 (.s 13)), og 76 70 true (.ld none (.s 75)), og 77 70 true (.bin .add 3 (.s 74) (.s 76)), og 78 70 true (.mv (.s 5)), og 79 70 true (.mv (.s 9)), og 80 70 true (.ixs 1 (.s 78) (.s 79)), og 81 70 true (.ld none (.s 80))] [og 82 70 true (.bin .gtr 3 (.s 77) (.s 81)), oo 83 (.pick (.s 70) (.s 82) (.v (.bool false)))] := rsk
theorem e38 : CX Tryz.f38 fun r l a => CE Tryz.prog (l 0) (.seq (.seq (r 4) (.cond (.tmp 17) .skip (.exit 0))) (.seq (.block 1 (.seq (.seq (r 6) (.cond (.tmp 24) (.seq (r 7) (.exit 1)) .skip)) (.seq (r 8) (r 9)))) (r 5))) ∧
 CE Tryz.prog (l 2) (.seq (.seq (r 15) (.cond (.tmp 55) .skip (.exit 4))) (.seq (.block 5 (.seq (r 17) (.seq (r 18) (.cond (.tmp 83) (r 19) .skip)))) (r 16))) ∧
 CE Tryz.prog (l 1) (.seq (.seq (r 11) (.cond (.tmp 41) .skip (.exit 2))) (.seq (.block 3 (.seq (r 13) (.seq (.seq (r 14) (.block 4 (.loop (l 2)))) (.seq (r 20) (.cond (.tmp 93) (.seq (r 21) .ret) .skip))))) (r 12))) := ⟨cek, cek, cek⟩
theorem d38 : CD Tryz.f38 fun r l a => (.seq (r 0) (.seq (r 1) (.seq (r 2) (.seq (.seq (r 3) (.block 0 (.loop (l 0)))) (.seq (.seq (r 10) (.block 2 (.loop (l 1)))) (.seq (r 22) .ret)))))) := cek
theorem yarq : RI Tryz.prog 38 Tryz.f38 94 [.tmp 4] := rik Tryz.func38
theorem t39 : type_of% (by have h := tf (zbc Tryz.f39 39 [0, 1, 2, 3, 4, 5, 6, 7, 8, 9, 10]); conv at h => { lhs; cbv }; exact h) := by kernel_rfl
theorem n39 : type_of% (by have h := zaa t39; simp only [RDs, ba0, ba1] at h; exact h) := zaa t39
theorem yav3 : type_of% (by have h := tf (tab Tryz.f39 39 [11, 12, 13, 14, 15, 16, 17, 18, 19, 20, 21]); conv at h => { lhs; cbv }; exact h) := by kernel_rfl
theorem zl8 : type_of% (by have h := zak yav3; simp only [RDs, ba0, ba1] at h; exact h) := zak yav3
theorem e39 : CX Tryz.f39 fun r l a => CE Tryz.prog (l 0) (.seq (r 10) (.seq (.cond (.tmp 40) .skip (.exit 0)) (.seq (.block 1 (.seq (r 11) (.seq (r 12) (.seq (.seq (r 13) (.cond (.tmp 51) (.seq (.seq (r 14) (.cond (.tmp 55) (.seq (r 15) .ret) .skip)) (.exit 1)) .skip)) (.seq (.seq (r 16) (.cond (.tmp 65) (.seq (r 17) .ret) .skip)) (.seq (r 18) (.cond (.tmp 78) (.seq (r 19) .ret) .skip))))))) (r 20)))) := cek
theorem d39 : CD Tryz.f39 fun r l a => (.seq (r 0) (.seq (.seq (r 1) (.seq (r 2) (.cond (.tmp 13) (.seq (r 3) .ret) .skip))) (.seq (.seq (r 4) (.cond (.tmp 22) (.seq (r 5) .ret) .skip)) (.seq (r 6) (.seq (.seq (r 7) (.cond (.tmp 35) (.seq (r 8) .ret) .skip)) (.seq (.seq (r 9) (.block 0 (.loop (l 0)))) (.seq (r 21) .ret))))))) := cek
theorem yarr : RI Tryz.prog 39 Tryz.f39 80 [.tmp 4] := rik Tryz.func39
theorem t40 : type_of% (by have h := tf (zbc Tryz.f40 40 [0, 1, 2, 5, 3, 6]); conv at h => { lhs; cbv }; exact h) := by kernel_rfl
theorem n40 : type_of% (by have h := zaa t40; simp only [RDs, ba0, ba1] at h; exact h) := zaa t40
theorem zvv : RS Tryz.prog Tryz.f40 40 4 [0, 3, 20] none [oo 11 (.mv (.s 0)), oo 12 (.mv (.s 3)), oo 13 (.ixs 1 (.s 11) (.s 12)), oo 14 (.ld none (.s 13)), oo 15 (.mv (.s 0)), oo 16 (.mv (.s 3)), oo 17 (.bin .sub 3 (.s 16) (.v (.int .i64 1))), oo 18 (.ixs 1 (.s 15) (.s 17)), oo 19 (.ld none (.s 18))] [oo 20 (.call 71 [(.s 14), (.s 19)])] := rsk
theorem e40 : CX Tryz.f40 fun r l a => CE Tryz.prog (l 0) (.seq (.seq (r 2) (.cond (.tmp 8) .skip (.exit 0))) (.seq (.block 1 (.seq (r 4) (.cond (.tmp 20) (.seq (r 5) .ret) .skip))) (r 3))) := cek
theorem d40 : CD Tryz.f40 fun r l a => (.seq (r 0) (.seq (.seq (r 1) (.block 0 (.loop (l 0)))) (.seq (r 6) .ret))) := cek
theorem yaj4 : RI Tryz.prog 40 Tryz.f40 21 [.tmp 2] := rik Tryz.func40
end Go.Proofs.YtibehelnfbcnjaaGreatDoor.v
