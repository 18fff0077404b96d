/- What the law's proof leans on, part 16. Conditions: in each statement. -/
import Derived.Test.YtcfcphhamfhfcaaGreatDoorQVN
set_option linter.all false
namespace Go.Proofs.YtcfcphhamfhfcaaGreatDoor.v
open Go Go.Ab
set_option maxRecDepth 100000
set_option maxHeartbeats 4000000
set_option linter.unusedSimpArgs false
set_option linter.unusedVariables false
theorem t3 : type_of% (by have h := tf (zbi Tryz.f3 3 [0, 1, 2, 3, 4, 5, 7, 8, 9]); conv at h => { lhs; cbv }; exact h) := by kernel_rfl
theorem n3 : type_of% (by have h := zaa t3; simp only [RDs, ba0, ba1] at h; exact h) := zaa t3
theorem t3_1 : type_of% (by have h := tf (tab Tryz.f3 3 [10, 11, 12, 13, 14]); conv at h => { lhs; cbv }; exact h) := by kernel_rfl
theorem zic : type_of% (by have h := zar t3_1; simp only [RDs, ba0, ba1] at h; exact h) := zar t3_1
theorem t3_2 : type_of% (by have h := tf (tab Tryz.f3 3 [15, 16, 17, 19, 18, 20, 21, 23]); conv at h => { lhs; cbv }; exact h) := by kernel_rfl
theorem zid : type_of% (by have h := zar t3_2; simp only [RDs, ba0, ba1] at h; exact h) := zar t3_2
theorem t3_3 : type_of% (by have h := tf (tab Tryz.f3 3 [22, 24]); conv at h => { lhs; cbv }; exact h) := by kernel_rfl
theorem zie : type_of% (by have h := zar t3_3; simp only [RDs, ba0, ba1] at h; exact h) := zar t3_3
theorem zh9 : RS Tryz.prog Tryz.f3 3 6 [3, 4, 5, 6, 7, 8, 15, 87] (some [3, 4, 5, 6, 7, 8, 15, 87]) [oo 55 (.ld (some 4) (.s 16)), oo 56 (.ld (some 4) (.s 18)), oo 57 (.call 15 [(.s 55), (.s 56)]), oo 58 (.un .not (.s 57)), oo 59 (.mv (.s 58)), og 60 59 false (.mv (.s 17)), og 61 59 false (.mv (.s 19)), og 62 59 false (.bin .neq 3 (.s 60) (.s 61)), oo 63 (.pick (.s 59) (.v (.bool true)) (.s 62)), oo 64 (.mv (.s 63)), og 65 64 false (.ld (some 7) (.s 7)), og 66 64 false (.ld (some 4) (.s 15)), og 67 64 false (.call 16 [(.s 65), (.s 66)]), og 68 64 false (.ld (some 7) (.s 7)), og 69 64 false (.ld (some 4) (.s 8)), og 70 64 false (.call 17 [(.s 68), (.s 69)]), og 71 64 false (.bin .neq 3 (.s 67) (.s 70)), oo 72 (.pick (.s 64) (.v (.bool true)) (.s 71)), oo 73 (.mv (.s 72)), og 74 73 false (.ld (some 4) (.s 15)), og 75 73 false (.ld (some 4) (.s 9)), og 76 73 false (.call 18 [(.s 74), (.s 75)]), og 77 73 false (.ld (some 4) (.s 8)), og 78 73 false (.ld (some 4) (.s 9)), og 79 73 false (.call 15 [(.s 77), (.s 78)]), og 80 73 false (.bin .neq 4 (.s 76) (.s 79)), oo 81 (.pick (.s 73) (.v (.bool true)) (.s 80)), oo 82 (.mv (.s 81)), og 83 82 false (.ld (some 4) (.s 15)), og 84 82 false (.ld (some 4) (.s 8))] [og 85 82 false (.call 18 [(.s 83), (.s 84)]), og 86 82 false (.un .not (.s 85)), oo 87 (.pick (.s 82) (.v (.bool true)) (.s 86))] := rsk
theorem e3 : CX Tryz.f3 fun r l a => CE Tryz.prog (l 0) (.seq (.seq (r 17) (.cond (.tmp 173) .skip (.exit 0))) (.seq (.block 1 (r 19)) (r 18))) ∧
 CE Tryz.prog (l 1) (.seq (.seq (r 21) (.cond (.tmp 184) .skip (.exit 2))) (.seq (.block 3 (r 23)) (r 22))) := ⟨cek, cek⟩
theorem d3 : CD Tryz.f3 fun r l a => (.seq (r 0) (.seq (.seq (r 1) (.cond (.tmp 42) (.seq (r 2) .ret) .skip)) (.seq (r 3) (.seq (r 4) (.seq (r 5) (.seq (.seq (r 6) (.cond (.tmp 87) (.seq (r 7) .ret) .skip)) (.seq (r 8) (.seq (r 9) (.seq (r 10) (.seq (r 11) (.seq (r 12) (.seq (r 13) (.seq (r 14) (.seq (r 15) (.seq (.seq (r 16) (.block 0 (.loop (l 0)))) (.seq (.seq (r 20) (.block 2 (.loop (l 1)))) (.seq (r 24) .ret))))))))))))))))) := cek
theorem yae6 : RI Tryz.prog 3 Tryz.f3 198 [.tmp 14] := rik Tryz.func3
theorem t10 : type_of% (by have h := tf (zbi Tryz.f10 10 [0, 1]); conv at h => { lhs; cbv }; exact h) := by kernel_rfl
theorem n10 : type_of% (by have h := zaa t10; simp only [RDs, ba0, ba1] at h; exact h) := zaa t10
theorem d10 : CD Tryz.f10 fun r l a => (.seq (r 0) (.seq (r 1) .ret)) := cek
theorem yawr : RI Tryz.prog 10 Tryz.f10 11 [.tmp 4] := rik Tryz.func10
theorem t11 : type_of% (by have h := tf (zbi Tryz.f11 11 [0, 1]); conv at h => { lhs; cbv }; exact h) := by kernel_rfl
theorem n11 : type_of% (by have h := zaa t11; simp only [RDs, ba0, ba1] at h; exact h) := zaa t11
theorem d11 : CD Tryz.f11 fun r l a => (.seq (r 0) (.seq (r 1) .ret)) := cek
theorem yaws : RI Tryz.prog 11 Tryz.f11 13 [.tmp 2] := rik Tryz.func11
theorem t12 : type_of% (by have h := tf (zbi Tryz.f12 12 [0, 1, 2, 3, 4]); conv at h => { lhs; cbv }; exact h) := by kernel_rfl
theorem n12 : type_of% (by have h := zaa t12; simp only [RDs, ba0, ba1] at h; exact h) := zaa t12
theorem yaml : zs0 Tryz.prog 32 = some (some 4) := by kernel_rfl
theorem d12 : CD Tryz.f12 fun r l a => (.seq (r 0) (.seq (r 1) (.seq (r 2) (.seq (r 3) (.seq (r 4) .ret))))) := cek
theorem zzx : RI Tryz.prog 12 Tryz.f12 22 [.cell 2 32] := rik Tryz.func12
theorem t13 : type_of% (by have h := tf (zbi Tryz.f13 13 [0, 1, 2, 3, 4]); conv at h => { lhs; cbv }; exact h) := by kernel_rfl
theorem n13 : type_of% (by have h := zaa t13; simp only [RDs, ba0, ba1] at h; exact h) := zaa t13
theorem ya0q : zs0 Tryz.prog 32 = some (some 4) := by kernel_rfl
theorem d13 : CD Tryz.f13 fun r l a => (.seq (r 0) (.seq (r 1) (.seq (.seq (r 2) (.cond (.tmp 12) (.seq (r 3) .ret) .skip)) (.seq (r 4) .ret)))) := cek
theorem yawt : RI Tryz.prog 13 Tryz.f13 19 [.cell 2 32, .tmp 3] := rik Tryz.func13
theorem t14 : type_of% (by have h := tf (zbi Tryz.f14 14 [0, 1, 2, 3]); conv at h => { lhs; cbv }; exact h) := by kernel_rfl
theorem n14 : type_of% (by have h := zaa t14; simp only [RDs, ba0, ba1] at h; exact h) := zaa t14
theorem ya0r : zs0 Tryz.prog 32 = some (some 4) := by kernel_rfl
theorem d14 : CD Tryz.f14 fun r l a => (.seq (r 0) (.seq (.seq (r 1) (.cond (.tmp 6) (.seq (r 2) .ret) .skip)) (.seq (r 3) .ret))) := cek
theorem yawu : RI Tryz.prog 14 Tryz.f14 12 [.cell 2 32, .tmp 3] := rik Tryz.func14
theorem t15 : type_of% (by have h := tf (zbi Tryz.f15 15 [0, 1]); conv at h => { lhs; cbv }; exact h) := by kernel_rfl
theorem n15 : type_of% (by have h := zaa t15; simp only [RDs, ba0, ba1] at h; exact h) := zaa t15
theorem d15 : CD Tryz.f15 fun r l a => (.seq (r 0) (.seq (r 1) .ret)) := cek
theorem yawv : RI Tryz.prog 15 Tryz.f15 31 [.tmp 4] := rik Tryz.func15
theorem t16 : type_of% (by have h := tf (zbi Tryz.f16 16 [0, 1, 2, 3, 4, 5, 6]); conv at h => { lhs; cbv }; exact h) := by kernel_rfl
theorem n16 : type_of% (by have h := zaa t16; simp only [RDs, ba0, ba1] at h; exact h) := zaa t16
theorem d16 : CD Tryz.f16 fun r l a => (.seq (r 0) (.seq (.seq (r 1) (.seq (r 2) (.cond (.tmp 9) (.seq (r 3) .ret) .skip))) (.seq (.seq (r 4) (.cond (.tmp 14) (.seq (r 5) .ret) .skip)) (.seq (r 6) .ret)))) := cek
theorem yaww : RI Tryz.prog 16 Tryz.f16 15 [.tmp 4] := rik Tryz.func16
theorem t17 : type_of% (by have h := tf (zbi Tryz.f17 17 [0, 1, 2, 3, 4, 5]); conv at h => { lhs; cbv }; exact h) := by kernel_rfl
theorem n17 : type_of% (by have h := zaa t17; simp only [RDs, ba0, ba1] at h; exact h) := zaa t17
theorem d17 : CD Tryz.f17 fun r l a => (.seq (r 0) (.seq (.seq (r 1) (.cond (.tmp 7) (.seq (r 2) .ret) .skip)) (.seq (.seq (r 3) (.cond (.tmp 13) (.seq (r 4) .ret) .skip)) (.seq (r 5) .ret)))) := cek
theorem yawx : RI Tryz.prog 17 Tryz.f17 14 [.tmp 4] := rik Tryz.func17
theorem t18 : type_of% (by have h := tf (zbi Tryz.f18 18 [0, 1]); conv at h => { lhs; cbv }; exact h) := by kernel_rfl
theorem n18 : type_of% (by have h := zaa t18; simp only [RDs, ba0, ba1] at h; exact h) := zaa t18
theorem d18 : CD Tryz.f18 fun r l a => (.seq (r 0) (.seq (r 1) .ret)) := cek
theorem yawy : RI Tryz.prog 18 Tryz.f18 31 [.tmp 4] := rik Tryz.func18
theorem t19 : type_of% (by have h := tf (zbi Tryz.f19 19 [0, 1, 2, 3, 4]); conv at h => { lhs; cbv }; exact h) := by kernel_rfl
theorem n19 : type_of% (by have h := zaa t19; simp only [RDs, ba0, ba1] at h; exact h) := zaa t19
theorem d19 : CD Tryz.f19 fun r l a => (.seq (r 0) (.seq (.seq (r 1) (.seq (r 2) (.cond (.tmp 13) (.seq (r 3) .ret) .skip))) (.seq (r 4) .ret))) := cek
theorem yan6 : RI Tryz.prog 19 Tryz.f19 22 [.tmp 6, .tmp 7] := rik Tryz.func19
theorem t20 : type_of% (by have h := tf (zbi Tryz.f20 20 [0, 1, 2, 3]); conv at h => { lhs; cbv }; exact h) := by kernel_rfl
theorem n20 : type_of% (by have h := zaa t20; simp only [RDs, ba0, ba1] at h; exact h) := zaa t20
theorem d20 : CD Tryz.f20 fun r l a => (.seq (r 0) (.seq (.seq (r 1) (.cond (.tmp 11) (.seq (r 2) .ret) .skip)) (.seq (r 3) .ret))) := cek
theorem yan7 : RI Tryz.prog 20 Tryz.f20 22 [.tmp 6, .tmp 7] := rik Tryz.func20
theorem t21 : type_of% (by have h := tf (zbi Tryz.f21 21 [0, 1, 2, 3, 4, 5]); conv at h => { lhs; cbv }; exact h) := by kernel_rfl
theorem n21 : type_of% (by have h := zaa t21; simp only [RDs, ba0, ba1] at h; exact h) := zaa t21
theorem d21 : CD Tryz.f21 fun r l a => (.seq (r 0) (.seq (.seq (r 1) (.seq (r 2) (.cond (.tmp 19) (.seq (r 3) .ret) .skip))) (.seq (r 4) (.seq (r 5) .ret)))) := cek
theorem yawz : RI Tryz.prog 21 Tryz.f21 32 [.tmp 8, .tmp 9] := rik Tryz.func21
theorem t22 : type_of% (by have h := tf (zbi Tryz.f22 22 [0, 1, 2, 3, 4, 5, 6, 8]); conv at h => { lhs; cbv }; exact h) := by kernel_rfl
theorem n22 : type_of% (by have h := zaa t22; simp only [RDs, ba0, ba1] at h; exact h) := zaa t22
theorem yak4 : RS Tryz.prog Tryz.f22 22 7 [2, 4, 5, 10, 11] none [oo 30 (.mv (.s 10)), oo 31 (.bin .mul 30 (.v (.int .u64 256)) (.s 30)), oo 32 (.fa 1 (.s 5)), oo 33 (.ld none (.s 32)), oo 34 (.ld (some 7) (.s 4)), oo 35 (.mv (.s 2)), oo 36 (.mv (.s 11)), oo 37 (.call 56 [(.s 34), (.s 35), (.s 36)]), oo 38 (.call 55 [(.s 33), (.s 37)]), oo 39 (.cvt .u64 (.s 38))] [oo 40 (.bin .add 30 (.s 31) (.s 39)), oo 10 (.mv (.s 40))] := rsk
theorem e22 : CX Tryz.f22 fun r l a => CE Tryz.prog (l 0) (.seq (.seq (r 5) (.cond (.tmp 27) .skip (.exit 0))) (.seq (.block 1 (r 7)) (r 6))) := cek
theorem d22 : CD Tryz.f22 fun r l a => (.seq (r 0) (.seq (.seq (r 1) (.cond (.tmp 17) (.seq (r 2) .ret) .skip)) (.seq (r 3) (.seq (.seq (r 4) (.block 0 (.loop (l 0)))) (.seq (r 8) .ret))))) := cek
theorem yaw0 : RI Tryz.prog 22 Tryz.f22 42 [.tmp 8, .tmp 9] := rik Tryz.func22
theorem t23 : type_of% (by have h := tf (zbi Tryz.f23 23 [0, 1, 2, 3, 4, 5, 6, 7, 8, 9, 10]); conv at h => { lhs; cbv }; exact h) := by kernel_rfl
theorem n23 : type_of% (by have h := zaa t23; simp only [RDs, ba0, ba1] at h; exact h) := zaa t23
theorem ya1q : type_of% (by have h := tf (tab Tryz.f23 23 [11, 12, 13, 14, 15, 16, 17, 18]); conv at h => { lhs; cbv }; exact h) := by kernel_rfl
theorem zt5 : type_of% (by have h := zar ya1q; simp only [RDs, ba0, ba1] at h; exact h) := zar ya1q
theorem e23 : CX Tryz.f23 fun r l a => CE Tryz.prog (l 0) (.seq (r 8) (.seq (.cond (.tmp 45) .skip (.exit 1)) (.seq (.block 2 (.seq (r 9) (r 10))) (r 11)))) ∧
 CE Tryz.prog (l 1) (.seq (r 14) (.seq (.cond (.tmp 59) .skip (.exit 3)) (.seq (.block 4 (.seq (r 15) (r 16))) (r 17)))) := ⟨cek, cek⟩
theorem d23 : CD Tryz.f23 fun r l a => (.seq (r 0) (.seq (r 1) (.seq (.block 0 (.seq (r 2) (.cond (.tmp 19) (.seq (r 3) .ret) (.seq (r 4) (.cond (.tmp 23) (.seq (r 5) .ret) .skip))))) (.seq (r 6) (.seq (.seq (r 7) (.block 1 (.loop (l 0)))) (.seq (r 12) (.seq (.seq (r 13) (.block 3 (.loop (l 1)))) (.seq (r 18) .ret)))))))) := cek
theorem yaw1 : RI Tryz.prog 23 Tryz.f23 76 [.tmp 8, .tmp 9] := rik Tryz.func23
theorem t24 : type_of% (by have h := tf (zbi Tryz.f24 24 [0, 1, 2, 3, 4, 5, 6, 7, 8, 10]); conv at h => { lhs; cbv }; exact h) := by kernel_rfl
theorem n24 : type_of% (by have h := zaa t24; simp only [RDs, ba0, ba1] at h; exact h) := zaa t24
theorem zro : RL Tryz.prog Tryz.f24 24 9 [2, 3, 4, 5, 10, 11] none [] [(oo 37 (.mv (.s 10)), [], []), (oo 38 (.fa 1 (.s 5)), [], []), (oo 39 (.ld none (.s 38)), [], []), (oo 40 (.ld (some 7) (.s 4)), [], []), (oo 41 (.mv (.s 2)), [], []), (oo 42 (.mv (.s 11)), [], []), (oo 43 (.call 56 [(.s 40), (.s 41), (.s 42)]), [], []), (oo 44 (.call 55 [(.s 39), (.s 43)]), [], []), (oo 45 (.bsl 5 1 [(.int .u8 0)] 1 [(0, (.s 44))]), [], [])] [oo 46 (.app 5 1 1 1 (.s 37) (.s 45)), oo 10 (.mv (.s 46))] := rlk
theorem e24 : CX Tryz.f24 fun r l a => CE Tryz.prog (l 0) (.seq (.seq (r 7) (.cond (.tmp 34) .skip (.exit 0))) (.seq (.block 1 (r 9)) (r 8))) := cek
theorem d24 : CD Tryz.f24 fun r l a => (.seq (r 0) (.seq (.seq (r 1) (.cond (.tmp 15) (.seq (r 2) .ret) .skip)) (.seq (.seq (r 3) (.cond (.tmp 31) (.seq (r 4) .ret) .skip)) (.seq (r 5) (.seq (.seq (r 6) (.block 0 (.loop (l 0)))) (.seq (r 10) .ret)))))) := cek
theorem yaw2 : RI Tryz.prog 24 Tryz.f24 48 [.tmp 8, .tmp 9] := rik Tryz.func24
theorem t25 : type_of% (by have h := tf (zbi Tryz.f25 25 [0, 2]); conv at h => { lhs; cbv }; exact h) := by kernel_rfl
theorem n25 : type_of% (by have h := zaa t25; simp only [RDs, ba0, ba1] at h; exact h) := zaa t25
theorem yamm : zs0 Tryz.prog 32 = some (some 4) := by kernel_rfl
theorem yak5 : RL Tryz.prog Tryz.f25 25 1 [1, 2] none [] [(oo 3 (.fa 0 (.s 1)), [], []), (oo 4 (.ld none (.s 3)), [], []), (oo 5 (.call 60 [(.s 4)]), [], []), (oo 6 (.fa 1 (.s 1)), [], [2]), (oo 7 (.ld none (.s 6)), [], [2]), (oo 8 (.call 61 [(.s 7)]), [], []), (oo 9 (.fa 0 (.s 1)), [], [5])] [on (.st 1 (.s 9) (.s 5)), oo 10 (.fa 1 (.s 1)), on (.st 1 (.s 10) (.s 8))] := rlk
theorem d25 : CD Tryz.f25 fun r l a => (.seq (r 0) (.seq (r 1) (.seq (r 2) .ret))) := cek
theorem zzy : RI Tryz.prog 25 Tryz.f25 12 [.cell 2 32] := rik Tryz.func25
theorem t26 : type_of% (by have h := tf (zbi Tryz.f26 26 [0, 1, 2, 3, 4, 7, 5, 8]); conv at h => { lhs; cbv }; exact h) := by kernel_rfl
theorem n26 : type_of% (by have h := zaa t26; simp only [RDs, ba0, ba1] at h; exact h) := zaa t26
theorem yacp : RS Tryz.prog Tryz.f26 26 6 [0, 1, 5, 25] none [oo 17 (.mv (.s 0)), oo 18 (.mv (.s 5)), oo 19 (.ixs 1 (.s 17) (.s 18)), oo 20 (.ld none (.s 19)), oo 21 (.mv (.s 1)), oo 22 (.mv (.s 5)), oo 23 (.ixs 1 (.s 21) (.s 22)), oo 24 (.ld none (.s 23))] [oo 25 (.bin .neq 5 (.s 20) (.s 24))] := rsk
theorem e26 : CX Tryz.f26 fun r l a => CE Tryz.prog (l 0) (.seq (.seq (r 4) (.cond (.tmp 14) .skip (.exit 0))) (.seq (.block 1 (.seq (r 6) (.cond (.tmp 25) (.seq (r 7) .ret) .skip))) (r 5))) := cek
theorem d26 : CD Tryz.f26 fun r l a => (.seq (r 0) (.seq (.seq (r 1) (.cond (.tmp 10) (.seq (r 2) .ret) .skip)) (.seq (.seq (r 3) (.block 0 (.loop (l 0)))) (.seq (r 8) .ret)))) := cek
theorem yaw3 : RI Tryz.prog 26 Tryz.f26 26 [.tmp 4] := rik Tryz.func26
theorem t35 : type_of% (by have h := tf (zbi Tryz.f35 35 [0, 1, 2, 3, 4, 7, 5, 8]); conv at h => { lhs; cbv }; exact h) := by kernel_rfl
theorem n35 : type_of% (by have h := zaa t35; simp only [RDs, ba0, ba1] at h; exact h) := zaa t35
theorem yacq : RS Tryz.prog Tryz.f35 35 6 [0, 1, 5, 25] none [oo 17 (.mv (.s 0)), oo 18 (.mv (.s 5)), oo 19 (.ixs 1 (.s 17) (.s 18)), oo 20 (.ld none (.s 19)), oo 21 (.mv (.s 1)), oo 22 (.mv (.s 5)), oo 23 (.ixs 1 (.s 21) (.s 22)), oo 24 (.ld none (.s 23))] [oo 25 (.bin .neq 30 (.s 20) (.s 24))] := rsk
theorem e35 : CX Tryz.f35 fun r l a => CE Tryz.prog (l 0) (.seq (.seq (r 4) (.cond (.tmp 14) .skip (.exit 0))) (.seq (.block 1 (.seq (r 6) (.cond (.tmp 25) (.seq (r 7) .ret) .skip))) (r 5))) := cek
theorem d35 : CD Tryz.f35 fun r l a => (.seq (r 0) (.seq (.seq (r 1) (.cond (.tmp 10) (.seq (r 2) .ret) .skip)) (.seq (.seq (r 3) (.block 0 (.loop (l 0)))) (.seq (r 8) .ret)))) := cek
theorem yaw4 : RI Tryz.prog 35 Tryz.f35 26 [.tmp 4] := rik Tryz.func35
theorem t36 : type_of% (by have h := tf (zbi Tryz.f36 36 [0, 1, 2, 3, 4, 7, 5, 8]); conv at h => { lhs; cbv }; exact h) := by kernel_rfl
theorem n36 : type_of% (by have h := zaa t36; simp only [RDs, ba0, ba1] at h; exact h) := zaa t36
theorem yacr : RS Tryz.prog Tryz.f36 36 6 [0, 1, 5, 25] none [oo 17 (.mv (.s 0)), oo 18 (.mv (.s 5)), oo 19 (.ixs 2 (.s 17) (.s 18)), oo 20 (.ld (some 2) (.s 19)), oo 21 (.mv (.s 1)), oo 22 (.mv (.s 5)), oo 23 (.ixs 2 (.s 21) (.s 22)), oo 24 (.ld (some 2) (.s 23))] [oo 25 (.bin .neq 57 (.s 20) (.s 24))] := rsk
theorem e36 : CX Tryz.f36 fun r l a => CE Tryz.prog (l 0) (.seq (.seq (r 4) (.cond (.tmp 14) .skip (.exit 0))) (.seq (.block 1 (.seq (r 6) (.cond (.tmp 25) (.seq (r 7) .ret) .skip))) (r 5))) := cek
theorem d36 : CD Tryz.f36 fun r l a => (.seq (r 0) (.seq (.seq (r 1) (.cond (.tmp 10) (.seq (r 2) .ret) .skip)) (.seq (.seq (r 3) (.block 0 (.loop (l 0)))) (.seq (r 8) .ret)))) := cek
theorem yaw5 : RI Tryz.prog 36 Tryz.f36 26 [.tmp 4] := rik Tryz.func36
theorem t41 : type_of% (by have h := tf (zbi Tryz.f41 41 [0, 1, 2, 3, 4, 6, 7]); conv at h => { lhs; cbv }; exact h) := by kernel_rfl
theorem n41 : type_of% (by have h := zaa t41; simp only [RDs, ba0, ba1] at h; exact h) := zaa t41
theorem ya1r : type_of% (by have h := tf (tab Tryz.f41 41 [5, 8, 9, 11, 12, 13, 14, 15]); conv at h => { lhs; cbv }; exact h) := by kernel_rfl
theorem ze9 : type_of% (by have h := zar ya1r; simp only [RDs, ba0, ba1] at h; exact h) := zar ya1r
theorem ya1s : type_of% (by have h := tf (tab Tryz.f41 41 [17, 18, 16, 19, 20, 22, 23, 21]); conv at h => { lhs; cbv }; exact h) := by kernel_rfl
theorem zfa : type_of% (by have h := zar ya1s; simp only [RDs, ba0, ba1] at h; exact h) := zar ya1s
theorem ya1t : type_of% (by have h := tf (tab Tryz.f41 41 [10, 24]); conv at h => { lhs; cbv }; exact h) := by kernel_rfl
theorem zfb : type_of% (by have h := zar ya1t; simp only [RDs, ba0, ba1] at h; exact h) := zar ya1t
theorem e41 : CX Tryz.f41 fun r l a => CE Tryz.prog (l 0) (.seq (.seq (r 4) (.cond (.tmp 40) .skip (.exit 0))) (.seq (.block 1 (.seq (r 6) (.cond (.tmp 60) (.seq (r 7) .ret) .skip))) (r 5))) ∧
 CE Tryz.prog (l 2) (.seq (.seq (r 15) (.cond (.tmp 93) .skip (.exit 4))) (.seq (.block 5 (.seq (r 17) (.cond (.tmp 113) (.seq (r 18) .ret) .skip))) (r 16))) ∧
 CE Tryz.prog (l 3) (.seq (.seq (r 20) (.cond (.tmp 118) .skip (.exit 6))) (.seq (.block 7 (.seq (r 22) (.cond (.tmp 145) (.seq (r 23) .ret) .skip))) (r 21))) ∧
 CE Tryz.prog (l 1) (.seq (.seq (r 9) (.cond (.tmp 65) .skip (.exit 2))) (.seq (.block 3 (.seq (r 11) (.seq (.seq (r 12) (.cond (.tmp 88) (.seq (r 13) .ret) .skip)) (.seq (.seq (r 14) (.block 4 (.loop (l 2)))) (.seq (r 19) (.block 6 (.loop (l 3)))))))) (r 10))) := ⟨cek, cek, cek, cek⟩
theorem d41 : CD Tryz.f41 fun r l a => (.seq (r 0) (.seq (.seq (r 1) (.cond (.tmp 35) (.seq (r 2) .ret) .skip)) (.seq (.seq (r 3) (.block 0 (.loop (l 0)))) (.seq (.seq (r 8) (.block 2 (.loop (l 1)))) (.seq (r 24) .ret))))) := cek
theorem yaw6 : RI Tryz.prog 41 Tryz.f41 149 [.tmp 2] := rik Tryz.func41
theorem t42 : type_of% (by have h := tf (zbi Tryz.f42 42 [0, 1, 2, 3, 4]); conv at h => { lhs; cbv }; exact h) := by kernel_rfl
theorem n42 : type_of% (by have h := zaa t42; simp only [RDs, ba0, ba1] at h; exact h) := zaa t42
theorem d42 : CD Tryz.f42 fun r l a => (.seq (r 0) (.seq (.seq (r 1) (.seq (r 2) (.cond (.tmp 8) (.seq (r 3) .ret) .skip))) (.seq (r 4) .ret))) := cek
theorem yaw7 : RI Tryz.prog 42 Tryz.f42 12 [.tmp 2, .tmp 3] := rik Tryz.func42
theorem t43 : type_of% (by have h := tf (zbi Tryz.f43 43 [0, 1, 2, 3, 4, 5, 6, 8]); conv at h => { lhs; cbv }; exact h) := by kernel_rfl
theorem n43 : type_of% (by have h := zaa t43; simp only [RDs, ba0, ba1] at h; exact h) := zaa t43
theorem ya1u : type_of% (by have h := tf (tab Tryz.f43 43 [9, 10, 11, 12, 15, 13, 7, 16]); conv at h => { lhs; cbv }; exact h) := by kernel_rfl
theorem ze1 : type_of% (by have h := zar ya1u; simp only [RDs, ba0, ba1] at h; exact h) := zar ya1u
theorem zcx : RS Tryz.prog Tryz.f43 43 14 [1, 3, 4, 5, 79] none [oo 71 (.fa 6 (.s 1)), oo 72 (.ld none (.s 71)), oo 73 (.mv (.s 5)), oo 74 (.ixs 9 (.s 72) (.s 73)), oo 75 (.fa 0 (.s 74)), oo 76 (.ld none (.s 75)), oo 77 (.fa 0 (.s 4)), oo 78 (.ld none (.s 77))] [oo 79 (.bin .eql 9 (.s 76) (.s 78))] := rsk
theorem e43 : CX Tryz.f43 fun r l a => CE Tryz.prog (l 1) (.seq (.seq (r 12) (.cond (.tmp 68) .skip (.exit 2))) (.seq (.block 3 (.seq (r 14) (.cond (.tmp 79) (.seq (r 15) .ret) .skip))) (r 13))) ∧
 CE Tryz.prog (l 0) (.seq (.seq (r 6) (.cond (.tmp 48) .skip (.exit 0))) (.seq (.block 1 (.seq (r 8) (.seq (.seq (r 9) (.cond (.tmp 65) (.seq (r 10) .ret) .skip)) (.seq (r 11) (.block 2 (.loop (l 1))))))) (r 7))) := ⟨cek, cek⟩
theorem d43 : CD Tryz.f43 fun r l a => (.seq (r 0) (.seq (.seq (r 1) (.cond (.tmp 8) (.seq (r 2) .ret) .skip)) (.seq (.seq (r 3) (.cond (.tmp 43) (.seq (r 4) .ret) .skip)) (.seq (.seq (r 5) (.block 0 (.loop (l 0)))) (.seq (r 16) .ret))))) := cek
theorem yaw8 : RI Tryz.prog 43 Tryz.f43 80 [.tmp 2] := rik Tryz.func43
theorem t44 : type_of% (by have h := tf (zbi Tryz.f44 44 [0, 1, 2, 3, 5, 4, 6]); conv at h => { lhs; cbv }; exact h) := by kernel_rfl
theorem n44 : type_of% (by have h := zaa t44; simp only [RDs, ba0, ba1] at h; exact h) := zaa t44
theorem yamn : zs0 Tryz.prog 32 = some (some 4) := by kernel_rfl
theorem e44 : CX Tryz.f44 fun r l a => CE Tryz.prog (l 0) (.seq (.seq (r 3) (.cond (.tmp 9) .skip (.exit 0))) (.seq (.block 1 (r 5)) (r 4))) := cek
theorem d44 : CD Tryz.f44 fun r l a => (.seq (r 0) (.seq (r 1) (.seq (.seq (r 2) (.block 0 (.loop (l 0)))) (.seq (r 6) .ret)))) := cek
theorem yaw9 : RI Tryz.prog 44 Tryz.f44 18 [.cell 2 32] := rik Tryz.func44
theorem t45 : type_of% (by have h := tf (zbi Tryz.f45 45 [0, 1, 2, 3, 5, 6, 7, 8, 9, 10, 11, 12, 13, 14]); conv at h => { lhs; cbv }; exact h) := by kernel_rfl
theorem n45 : type_of% (by have h := zaa t45; simp only [RDs, ba0, ba1] at h; exact h) := zaa t45
theorem ya1v : type_of% (by have h := tf (tab Tryz.f45 45 [15, 16, 17, 18]); conv at h => { lhs; cbv }; exact h) := by kernel_rfl
theorem zlf : type_of% (by have h := zar ya1v; simp only [RDs, ba0, ba1] at h; exact h) := zar ya1v
theorem zla : RL Tryz.prog Tryz.f45 45 4 [1, 3] none [] [(oo 13 (.mv (.s 3)), [], []), (oo 14 (.fa 0 (.s 1)), [], []), (oo 15 (.ld none (.s 14)), [], []), (oo 16 (.call 86 [(.s 15)]), [], []), (oo 17 (.fa 1 (.s 1)), [], [3]), (oo 18 (.ld none (.s 17)), [], [3]), (oo 19 (.call 87 [(.s 18), (.v (.int .i64 1)), (.v (.int .i64 4))]), [], []), (oo 20 (.fa 2 (.s 1)), [], [3, 6]), (oo 21 (.ld none (.s 20)), [], [3, 6]), (oo 22 (.bin .eql 3 (.s 21) (.v (.int .i64 16))), [], [3, 6]), (oo 23 (.mv (.s 22)), [], []), (og 24 23 false (.fa 2 (.s 1)), [], []), (og 25 23 false (.ld none (.s 24)), [], []), (og 26 23 false (.bin .eql 3 (.s 25) (.v (.int .i64 32))), [], []), (oo 27 (.pick (.s 23) (.v (.bool true)) (.s 26)), [], []), (oo 28 (.bsl 4 1 [(.bool false), (.bool false), (.bool false)] 3 [(0, (.s 16)), (1, (.s 19)), (2, (.s 27))]), [], [])] [oo 29 (.call 85 [(.s 13), (.s 28)])] := rlk
theorem e45 : CX Tryz.f45 fun r l a => CE Tryz.prog (l 0) (.seq (r 10) (.seq (.cond (.tmp 40) .skip (.exit 0)) (.seq (.block 1 (.seq (r 11) (.seq (.seq (r 12) (.cond (.tmp 47) (.exit 0) .skip)) (.seq (r 13) (r 14))))) (r 15)))) := cek
theorem d45 : CD Tryz.f45 fun r l a => (.seq (r 0) (.seq (.seq (r 1) (.cond (.tmp 9) (.seq (r 2) .ret) .skip)) (.seq (r 3) (.seq (r 4) (.seq (r 5) (.seq (r 6) (.seq (r 7) (.seq (r 8) (.seq (.seq (r 9) (.block 0 (.loop (l 0)))) (.seq (.seq (r 16) (.cond (.tmp 62) (.seq (r 17) .ret) .skip)) (.seq (r 18) .ret))))))))))) := cek
theorem yaxa : RI Tryz.prog 45 Tryz.f45 63 [.tmp 2] := rik Tryz.func45
theorem t46 : type_of% (by have h := tf (zbi Tryz.f46 46 [0, 1, 2, 3, 4, 5, 6, 8, 9]); conv at h => { lhs; cbv }; exact h) := by kernel_rfl
theorem n46 : type_of% (by have h := zaa t46; simp only [RDs, ba0, ba1] at h; exact h) := zaa t46
theorem zp4 : RS Tryz.prog Tryz.f46 46 7 [2, 3, 44, 45, 46, 63] none [oo 51 (.fa 3 (.s 2)), oo 52 (.ld none (.s 51)), oo 53 (.mv (.s 8)), oo 54 (.ixs 4 (.s 52) (.s 53)), oo 55 (.fa 1 (.s 54)), oo 56 (.ld none (.s 55)), oo 57 (.fa 0 (.s 3)), oo 58 (.ld none (.s 57)), oo 59 (.mv (.s 7)), oo 60 (.ixs 1 (.s 58) (.s 59)), oo 61 (.ld none (.s 60))] [oo 62 (.call 57 [(.s 56), (.s 61)]), oo 63 (.un .not (.s 62))] := rsk
theorem ziy : RS Tryz.prog Tryz.f46 46 10 [4] (some [4]) [oo 65 (.fa 1 (.s 3)), oo 66 (.ld none (.s 65)), oo 67 (.lenl (.s 66)), oo 68 (.bin .eql 3 (.s 67) (.v (.int .i64 0))), oo 69 (.mv (.s 68)), og 70 69 false (.fa 2 (.s 2)), og 71 69 false (.ld none (.s 70)), og 72 69 false (.fa 1 (.s 3)), og 73 69 false (.ld none (.s 72)), og 74 69 false (.fa 1 (.s 3)), og 75 69 false (.ld none (.s 74)), og 76 69 false (.lenl (.s 75)), og 77 69 false (.bin .sub 3 (.s 76) (.v (.int .i64 1))), og 78 69 false (.ixs 2 (.s 73) (.s 77)), og 79 69 false (.fa 0 (.s 78)), og 80 69 false (.ld none (.s 79))] [og 81 69 false (.call 57 [(.s 71), (.s 80)]), oo 82 (.pick (.s 69) (.v (.bool true)) (.s 81)), oo 4 (.mv (.s 82))] := rsk
theorem e46 : CX Tryz.f46 fun r l a => CE Tryz.prog (l 0) (.seq (r 5) (.seq (.cond (.tmp 47) .skip (.exit 0)) (.seq (.block 1 (.seq (r 6) (.seq (r 7) (.cond (.tmp 63) (.seq (r 8) .ret) .skip)))) (r 9)))) := cek
theorem d46 : CD Tryz.f46 fun r l a => (.seq (r 0) (.seq (r 1) (.seq (.seq (r 2) (.cond (.tmp 43) (.seq (r 3) .ret) .skip)) (.seq (.seq (r 4) (.block 0 (.loop (l 0)))) (.seq (r 10) .ret))))) := cek
theorem yaxb : RI Tryz.prog 46 Tryz.f46 83 [.tmp 4] := rik Tryz.func46
theorem t47 : type_of% (by have h := tf (zbi Tryz.f47 47 [0, 1, 3, 4, 5, 8, 6, 9, 10, 13, 11, 14]); conv at h => { lhs; cbv }; exact h) := by kernel_rfl
theorem n47 : type_of% (by have h := zaa t47; simp only [RDs, ba0, ba1] at h; exact h) := zaa t47
theorem zly : RS Tryz.prog Tryz.f47 47 2 [2, 3, 5, 39] (some [2, 3, 5, 39]) [oo 10 (.fa 0 (.s 3)), oo 11 (.ld none (.s 10)), oo 12 (.lenl (.s 11)), oo 13 (.mv (.s 5)), oo 14 (.lenl (.s 13)), oo 15 (.bin .neq 3 (.s 12) (.s 14)), oo 16 (.mv (.s 15)), og 17 16 false (.fa 1 (.s 3)), og 18 16 false (.ld none (.s 17)), og 19 16 false (.call 94 [(.s 18)]), og 20 16 false (.bin .neq 3 (.s 19) (.v (.int .i64 0))), oo 21 (.pick (.s 16) (.v (.bool true)) (.s 20)), oo 22 (.mv (.s 21)), og 23 22 false (.fa 2 (.s 3)), og 24 22 false (.ld none (.s 23)), og 25 22 false (.fa 2 (.s 2)), og 26 22 false (.ld none (.s 25)), og 27 22 false (.call 59 [(.s 26)])] [og 28 22 false (.bin .gtr 30 (.s 24) (.s 27)), oo 29 (.pick (.s 22) (.v (.bool true)) (.s 28)), oo 30 (.mv (.s 29)), og 31 30 false (.fa 3 (.s 3)), og 32 30 false (.ld none (.s 31)), og 33 30 false (.bin .lss 3 (.s 32) (.v (.int .i64 0))), oo 34 (.pick (.s 30) (.v (.bool true)) (.s 33)), oo 35 (.mv (.s 34)), og 36 35 false (.fa 3 (.s 3)), og 37 35 false (.ld none (.s 36)), og 38 35 false (.bin .gtr 3 (.s 37) (.v (.int .i64 1099511627776))), oo 39 (.pick (.s 35) (.v (.bool true)) (.s 38))] := rsk
theorem zlz : RS Tryz.prog Tryz.f47 47 7 [2, 3, 5, 6, 61] none [oo 46 (.fa 3 (.s 2)), oo 47 (.ld none (.s 46)), oo 48 (.mv (.s 5)), oo 49 (.mv (.s 6)), oo 50 (.ixs 1 (.s 48) (.s 49)), oo 51 (.ld none (.s 50)), oo 52 (.ixs 4 (.s 47) (.s 51)), oo 53 (.fa 1 (.s 52)), oo 54 (.ld none (.s 53)), oo 55 (.fa 0 (.s 3)), oo 56 (.ld none (.s 55)), oo 57 (.mv (.s 6)), oo 58 (.ixs 1 (.s 56) (.s 57)), oo 59 (.ld none (.s 58))] [oo 60 (.call 66 [(.s 54), (.s 59)]), oo 61 (.un .not (.s 60))] := rsk
theorem zga : RS Tryz.prog Tryz.f47 47 12 [2, 3, 7, 78] none [oo 69 (.fa 1 (.s 3)), oo 70 (.ld none (.s 69)), oo 71 (.mv (.s 7)), oo 72 (.ixs 2 (.s 70) (.s 71)), oo 73 (.fa 0 (.s 72)), oo 74 (.ld none (.s 73)), oo 75 (.fa 2 (.s 2)), oo 76 (.ld none (.s 75)), oo 77 (.call 59 [(.s 76)])] [oo 78 (.bin .gtr 30 (.s 74) (.s 77))] := rsk
theorem e47 : CX Tryz.f47 fun r l a => CE Tryz.prog (l 0) (.seq (.seq (r 5) (.cond (.tmp 43) .skip (.exit 0))) (.seq (.block 1 (.seq (r 7) (.cond (.tmp 61) (.seq (r 8) .ret) .skip))) (r 6))) ∧
 CE Tryz.prog (l 1) (.seq (.seq (r 10) (.cond (.tmp 66) .skip (.exit 2))) (.seq (.block 3 (.seq (r 12) (.cond (.tmp 78) (.seq (r 13) .ret) .skip))) (r 11))) := ⟨cek, cek⟩
theorem d47 : CD Tryz.f47 fun r l a => (.seq (r 0) (.seq (r 1) (.seq (.seq (r 2) (.cond (.tmp 39) (.seq (r 3) .ret) .skip)) (.seq (.seq (r 4) (.block 0 (.loop (l 0)))) (.seq (.seq (r 9) (.block 2 (.loop (l 1)))) (.seq (r 14) .ret)))))) := cek
theorem yaxc : RI Tryz.prog 47 Tryz.f47 79 [.tmp 4] := rik Tryz.func47
theorem t48 : type_of% (by have h := tf (zbi Tryz.f48 48 [0, 1, 2, 3, 4, 5, 7, 8, 9]); conv at h => { lhs; cbv }; exact h) := by kernel_rfl
theorem n48 : type_of% (by have h := zaa t48; simp only [RDs, ba0, ba1] at h; exact h) := zaa t48
theorem yacs : RS Tryz.prog Tryz.f48 48 6 [0, 1, 12, 13, 24] none [oo 16 (.mv (.s 0)), oo 17 (.mv (.s 5)), oo 18 (.ixs 1 (.s 16) (.s 17)), oo 19 (.ld none (.s 18)), oo 20 (.mv (.s 1)), oo 21 (.mv (.s 5)), oo 22 (.ixs 1 (.s 20) (.s 21)), oo 23 (.ld none (.s 22))] [oo 24 (.bin .neq 30 (.s 19) (.s 23))] := rsk
theorem e48 : CX Tryz.f48 fun r l a => CE Tryz.prog (l 0) (.seq (r 4) (.seq (.cond (.tmp 14) .skip (.exit 0)) (.seq (.block 1 (.seq (r 5) (.seq (r 6) (.cond (.tmp 24) (.seq (r 7) .ret) .skip)))) (r 8)))) := cek
theorem d48 : CD Tryz.f48 fun r l a => (.seq (r 0) (.seq (.seq (r 1) (.cond (.tmp 10) (.seq (r 2) .ret) .skip)) (.seq (.seq (r 3) (.block 0 (.loop (l 0)))) (.seq (r 9) .ret)))) := cek
theorem yaxd : RI Tryz.prog 48 Tryz.f48 26 [.tmp 4] := rik Tryz.func48
theorem t49 : type_of% (by have h := tf (zbi Tryz.f49 49 [0, 1, 2, 3, 4, 5, 7, 8, 9]); conv at h => { lhs; cbv }; exact h) := by kernel_rfl
theorem n49 : type_of% (by have h := zaa t49; simp only [RDs, ba0, ba1] at h; exact h) := zaa t49
theorem yact : RS Tryz.prog Tryz.f49 49 6 [0, 1, 12, 13, 24] none [oo 16 (.mv (.s 0)), oo 17 (.mv (.s 5)), oo 18 (.ixs 2 (.s 16) (.s 17)), oo 19 (.ld (some 2) (.s 18)), oo 20 (.mv (.s 1)), oo 21 (.mv (.s 5)), oo 22 (.ixs 2 (.s 20) (.s 21)), oo 23 (.ld (some 2) (.s 22))] [oo 24 (.bin .neq 57 (.s 19) (.s 23))] := rsk
theorem e49 : CX Tryz.f49 fun r l a => CE Tryz.prog (l 0) (.seq (r 4) (.seq (.cond (.tmp 14) .skip (.exit 0)) (.seq (.block 1 (.seq (r 5) (.seq (r 6) (.cond (.tmp 24) (.seq (r 7) .ret) .skip)))) (r 8)))) := cek
theorem d49 : CD Tryz.f49 fun r l a => (.seq (r 0) (.seq (.seq (r 1) (.cond (.tmp 10) (.seq (r 2) .ret) .skip)) (.seq (.seq (r 3) (.block 0 (.loop (l 0)))) (.seq (r 9) .ret)))) := cek
theorem yaxe : RI Tryz.prog 49 Tryz.f49 26 [.tmp 4] := rik Tryz.func49
theorem t50 : type_of% (by have h := tf (zbi Tryz.f50 50 [0, 1, 2, 3]); conv at h => { lhs; cbv }; exact h) := by kernel_rfl
theorem n50 : type_of% (by have h := zaa t50; simp only [RDs, ba0, ba1] at h; exact h) := zaa t50
theorem yaza : RS Tryz.prog Tryz.f50 50 4 [6, 7] none [oo 24 (.mv (.s 1)), oo 25 (.mv (.s 8)), oo 26 (.ixs 1 (.s 24) (.s 25)), oo 27 (.ld none (.s 26)), oo 28 (.mv (.s 9)), oo 29 (.bin .shr 30 (.s 27) (.s 28)), oo 30 (.mv (.s 10)), oo 31 (.call 58 [(.s 30)])] [oo 32 (.bin .and 30 (.s 29) (.s 31)), oo 6 (.mv (.s 32)), oo 7 (.mv (.v (.int .i64 0)))] := rsk
theorem d50 : CD Tryz.f50 fun r l a => (.seq (r 0) (.seq (r 1) (.seq (.seq (r 2) (.cond (.tmp 22) (.seq (r 3) .ret) .skip)) (.seq (r 4) .ret)))) := cek
theorem yan8 : RI Tryz.prog 50 Tryz.f50 33 [.tmp 6, .tmp 7] := rik Tryz.func50
theorem t51 : type_of% (by have h := tf (zbi Tryz.f51 51 [0, 1, 2, 3, 4, 5]); conv at h => { lhs; cbv }; exact h) := by kernel_rfl
theorem n51 : type_of% (by have h := zaa t51; simp only [RDs, ba0, ba1] at h; exact h) := zaa t51
theorem d51 : CD Tryz.f51 fun r l a => (.seq (r 0) (.seq (r 1) (.seq (.seq (r 2) (.cond (.tmp 17) (.seq (r 3) .ret) .skip)) (.seq (r 4) (.seq (r 5) .ret))))) := cek
theorem yan9 : RI Tryz.prog 51 Tryz.f51 33 [.tmp 6, .tmp 7] := rik Tryz.func51
theorem t52 : type_of% (by have h := tf (zbi Tryz.f52 52 [0, 1, 2, 3, 4, 5, 6, 7, 8]); conv at h => { lhs; cbv }; exact h) := by kernel_rfl
theorem n52 : type_of% (by have h := zaa t52; simp only [RDs, ba0, ba1] at h; exact h) := zaa t52
theorem d52 : CD Tryz.f52 fun r l a => (.seq (r 0) (.seq (r 1) (.seq (.block 0 (.seq (r 2) (.cond (.tmp 13) (.seq (r 3) .ret) (.seq (r 4) (.cond (.tmp 17) (.seq (r 5) .ret) (.seq (r 6) (.cond (.tmp 32) (.seq (r 7) .ret) .skip))))))) (.seq (r 8) .ret)))) := cek
theorem yaxf : RI Tryz.prog 52 Tryz.f52 38 [.tmp 8] := rik Tryz.func52
theorem t53 : type_of% (by have h := tf (zbi Tryz.f53 53 [0, 1, 2, 3, 4, 5, 6, 7, 8]); conv at h => { lhs; cbv }; exact h) := by kernel_rfl
theorem n53 : type_of% (by have h := zaa t53; simp only [RDs, ba0, ba1] at h; exact h) := zaa t53
theorem d53 : CD Tryz.f53 fun r l a => (.seq (r 0) (.seq (.seq (r 1) (.seq (r 2) (.cond (.tmp 14) (.seq (r 3) .ret) .skip))) (.seq (.seq (r 4) (.cond (.tmp 23) (.seq (r 5) .ret) .skip)) (.seq (.seq (r 6) (.cond (.tmp 27) (.seq (r 7) .ret) .skip)) (.seq (r 8) .ret))))) := cek
theorem yaxg : RI Tryz.prog 53 Tryz.f53 33 [.tmp 8, .tmp 9] := rik Tryz.func53
end Go.Proofs.YtcfcphhamfhfcaaGreatDoor.v
