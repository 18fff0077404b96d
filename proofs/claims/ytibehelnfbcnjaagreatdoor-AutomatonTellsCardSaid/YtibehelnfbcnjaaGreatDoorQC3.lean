/- What the law's proof leans on, part 17. Conditions: in each statement. -/
import Derived.Test.YtibehelnfbcnjaaGreatDoorQVN
set_option linter.all false
namespace Go.Proofs.YtibehelnfbcnjaaGreatDoor.v
open Go Go.Ab
set_option maxRecDepth 100000
set_option maxHeartbeats 4000000
set_option linter.unusedSimpArgs false
set_option linter.unusedVariables false
theorem t41 : type_of% (by have h := tf (zbc Tryz.f41 41 [0, 1, 2, 3, 4, 5, 6, 7, 10]); conv at h => { lhs; cbv }; exact h) := by kernel_rfl
theorem n41 : type_of% (by have h := zaa t41; simp only [RDs, ba0, ba1] at h; exact h) := zaa t41
theorem zvw : RS Tryz.prog Tryz.f41 41 8 [1, 2, 5, 26] none [oo 20 (.ld (some 7) (.s 2)), oo 21 (.mv (.s 1)), oo 22 (.mv (.s 5)), oo 23 (.ixs 2 (.s 21) (.s 22)), oo 24 (.ld (some 2) (.s 23))] [oo 25 (.call 72 [(.s 20), (.s 24)]), oo 26 (.bin .neq 3 (.s 25) (.v (.int .i64 0)))] := rsk
theorem zvx : RS Tryz.prog Tryz.f41 41 9 [4] none [oo 27 (.ld (some 7) (.s 2)), oo 28 (.mv (.s 1)), oo 29 (.mv (.s 5)), oo 30 (.ixs 2 (.s 28) (.s 29)), oo 31 (.ld (some 2) (.s 30))] [oo 32 (.call 72 [(.s 27), (.s 31)]), oo 4 (.mv (.s 32))] := rsk
theorem e41 : CX Tryz.f41 fun r l a => CE Tryz.prog (l 0) (.seq (.seq (r 6) (.cond (.tmp 17) .skip (.exit 0))) (.seq (.block 1 (.seq (r 8) (.cond (.tmp 26) (.seq (r 9) .ret) .skip))) (r 7))) := cek
theorem d41 : CD Tryz.f41 fun r l a => (.seq (r 0) (.seq (.seq (r 1) (.cond (.tmp 8) (.seq (r 2) .ret) .skip)) (.seq (.seq (r 3) (.cond (.tmp 13) (.seq (r 4) .ret) .skip)) (.seq (.seq (r 5) (.block 0 (.loop (l 0)))) (.seq (r 10) .ret))))) := cek
theorem yars : RI Tryz.prog 41 Tryz.f41 33 [.tmp 4] := rik Tryz.func41
theorem t49 : type_of% (by have h := tf (zbc Tryz.f49 49 [0, 1, 2, 3, 4, 5, 7, 8, 9, 10, 6, 11]); conv at h => { lhs; cbv }; exact h) := by kernel_rfl
theorem n49 : type_of% (by have h := zaa t49; simp only [RDs, ba0, ba1] at h; exact h) := zaa t49
theorem e49 : CX Tryz.f49 fun r l a => CE Tryz.prog (l 0) (.seq (.seq (r 5) (.cond (.tmp 23) .skip (.exit 0))) (.seq (.block 1 (.seq (r 7) (.seq (.seq (r 8) (.cond (.tmp 41) (.seq (r 9) .ret) .skip)) (r 10)))) (r 6))) := cek
theorem d49 : CD Tryz.f49 fun r l a => (.seq (r 0) (.seq (.seq (r 1) (.cond (.tmp 13) (.seq (r 2) .ret) .skip)) (.seq (r 3) (.seq (.seq (r 4) (.block 0 (.loop (l 0)))) (.seq (r 11) .ret))))) := cek
theorem yaj5 : RI Tryz.prog 49 Tryz.f49 47 [.tmp 6, .tmp 7] := rik Tryz.func49
theorem t50 : type_of% (by have h := tf (zbc Tryz.f50 50 [0, 1, 2, 4, 5, 3, 6]); conv at h => { lhs; cbv }; exact h) := by kernel_rfl
theorem n50 : type_of% (by have h := zaa t50; simp only [RDs, ba0, ba1] at h; exact h) := zaa t50
theorem e50 : CX Tryz.f50 fun r l a => CE Tryz.prog (l 0) (.seq (.seq (r 2) (.cond (.tmp 8) .skip (.exit 0))) (.seq (.block 1 (.seq (r 4) (.cond (.tmp 16) (.seq (r 5) .ret) .skip))) (r 3))) := cek
theorem d50 : CD Tryz.f50 fun r l a => (.seq (r 0) (.seq (.seq (r 1) (.block 0 (.loop (l 0)))) (.seq (r 6) .ret))) := cek
theorem yart : RI Tryz.prog 50 Tryz.f50 21 [.tmp 2] := rik Tryz.func50
theorem t51 : type_of% (by have h := tf (zbc Tryz.f51 51 [0, 1, 2, 3, 5, 4, 6]); conv at h => { lhs; cbv }; exact h) := by kernel_rfl
theorem n51 : type_of% (by have h := zaa t51; simp only [RDs, ba0, ba1] at h; exact h) := zaa t51
theorem e51 : CX Tryz.f51 fun r l a => CE Tryz.prog (l 0) (.seq (.seq (r 3) (.cond (.tmp 9) .skip (.exit 0))) (.seq (.block 1 (r 5)) (r 4))) := cek
theorem d51 : CD Tryz.f51 fun r l a => (.seq (r 0) (.seq (r 1) (.seq (.seq (r 2) (.block 0 (.loop (l 0)))) (.seq (r 6) .ret)))) := cek
theorem yaru : RI Tryz.prog 51 Tryz.f51 21 [.tmp 2] := rik Tryz.func51
theorem t52 : type_of% (by have h := tf (zbc Tryz.f52 52 [0, 1, 2, 3, 4, 5, 6, 7]); conv at h => { lhs; cbv }; exact h) := by kernel_rfl
theorem n52 : type_of% (by have h := zaa t52; simp only [RDs, ba0, ba1] at h; exact h) := zaa t52
theorem yav4 : type_of% (by have h := tf (tab Tryz.f52 52 [8, 9, 10, 11, 12, 13, 14, 15, 16, 17]); conv at h => { lhs; cbv }; exact h) := by kernel_rfl
theorem zv7 : type_of% (by have h := zak yav4; simp only [RDs, ba0, ba1] at h; exact h) := zak yav4
theorem e52 : CX Tryz.f52 fun r l a => CE Tryz.prog (l 0) (.seq (r 3) (.seq (.cond (.tmp 40) .skip (.exit 0)) (.seq (.block 1 (.seq (r 4) (r 5))) (r 6)))) ∧
 CE Tryz.prog (l 2) (.seq (r 12) (.seq (.cond (.tmp 78) .skip (.exit 4)) (.seq (.block 5 (.seq (r 13) (r 14))) (r 15)))) ∧
 CE Tryz.prog (l 1) (.seq (r 8) (.seq (.cond (.tmp 56) .skip (.exit 2)) (.seq (.block 3 (.seq (r 9) (.seq (r 10) (.seq (r 11) (.block 4 (.loop (l 2))))))) (r 16)))) := ⟨cek, cek, cek⟩
theorem d52 : CD Tryz.f52 fun r l a => (.seq (r 0) (.seq (r 1) (.seq (.seq (r 2) (.block 0 (.loop (l 0)))) (.seq (.seq (r 7) (.block 2 (.loop (l 1)))) (.seq (r 17) .ret))))) := cek
theorem yarv : RI Tryz.prog 52 Tryz.f52 92 [.tmp 2] := rik Tryz.func52
theorem t53 : type_of% (by have h := tf (zbc Tryz.f53 53 [0, 1, 2, 3, 4]); conv at h => { lhs; cbv }; exact h) := by kernel_rfl
theorem n53 : type_of% (by have h := zaa t53; simp only [RDs, ba0, ba1] at h; exact h) := zaa t53
theorem e53 : CX Tryz.f53 fun r l a => CE Tryz.prog (l 0) (.seq (r 1) (.seq (.cond (.tmp 9) .skip (.exit 0)) (.seq (.block 1 (.seq (r 2) (r 3))) (r 4)))) := cek
theorem d53 : CD Tryz.f53 fun r l a => (.seq (r 0) (.block 0 (.loop (l 0)))) := cek
theorem yarw : RI Tryz.prog 53 Tryz.f53 23 [] := rik Tryz.func53
theorem t54 : type_of% (by have h := tf (zbc Tryz.f54 54 [0, 1, 2, 3, 4, 5, 6, 7, 8, 9]); conv at h => { lhs; cbv }; exact h) := by kernel_rfl
theorem n54 : type_of% (by have h := zaa t54; simp only [RDs, ba0, ba1] at h; exact h) := zaa t54
theorem yav5 : type_of% (by have h := tf (tab Tryz.f54 54 [10, 11]); conv at h => { lhs; cbv }; exact h) := by kernel_rfl
theorem yao5 : type_of% (by have h := zak yav5; simp only [RDs, ba0, ba1] at h; exact h) := zak yav5
theorem e54 : CX Tryz.f54 fun r l a => CE Tryz.prog (l 0) (.seq (r 4) (.seq (.cond (.tmp 17) .skip (.exit 0)) (.seq (.block 1 (.seq (r 5) (.seq (r 6) (.seq (r 7) (.seq (r 8) (.cond (.tmp 53) (.seq (r 9) .ret) .skip)))))) (r 10)))) := cek
theorem d54 : CD Tryz.f54 fun r l a => (.seq (r 0) (.seq (.seq (r 1) (.cond (.tmp 13) (.seq (r 2) .ret) .skip)) (.seq (.seq (r 3) (.block 0 (.loop (l 0)))) (.seq (r 11) .ret)))) := cek
theorem yarx : RI Tryz.prog 54 Tryz.f54 55 [.tmp 2] := rik Tryz.func54
theorem t55 : type_of% (by have h := tf (zbc Tryz.f55 55 [0, 1]); conv at h => { lhs; cbv }; exact h) := by kernel_rfl
theorem n55 : type_of% (by have h := zaa t55; simp only [RDs, ba0, ba1] at h; exact h) := zaa t55
theorem d55 : CD Tryz.f55 fun r l a => (.seq (r 0) (.seq (r 1) .ret)) := cek
theorem yary : RI Tryz.prog 55 Tryz.f55 15 [.tmp 6] := rik Tryz.func55
theorem t56 : type_of% (by have h := tf (zbc Tryz.f56 56 [0, 1, 2, 3, 4, 8, 9, 11, 12]); conv at h => { lhs; cbv }; exact h) := by kernel_rfl
theorem n56 : type_of% (by have h := zaa t56; simp only [RDs, ba0, ba1] at h; exact h) := zaa t56
theorem zq1 : RL Tryz.prog Tryz.f56 56 5 [0, 2, 4, 20, 21, 22] none [(3, 2)] [(oo 26 (.mv (.s 0)), [3], []), (oo 27 (.fa 0 (.s 4)), [], []), (oo 28 (.ld none (.s 27)), [], []), (oo 29 (.call 59 [(.s 2), (.s 28)]), [], []), (oo 30 (.fa 1 (.s 4)), [3], [3]), (oo 31 (.ld none (.s 30)), [3], [3]), (oo 32 (.call 55 [(.s 31), (.v (.int .i64 1)), (.v (.int .i64 64))]), [], []), (oo 33 (.bsl 4 1 [(.bool false), (.bool false)] 2 [(0, (.s 29)), (1, (.s 32))]), [], [])] [oo 34 (.call 53 [(.s 26), (.s 33)])] := rlk
theorem zjr : RS Tryz.prog Tryz.f56 56 10 [0, 2, 4, 20, 21, 22, 76] none [oo 77 (.fa 2 (.s 4)), oo 78 (.ld none (.s 77)), oo 79 (.mv (.s 0)), oo 80 (.nz (.s 79)), oo 81 (.fa 0 (.s 80)), oo 82 (.fa 3 (.s 81)), oo 83 (.ld none (.s 82)), oo 84 (.lenl (.s 83)), oo 85 (.bin .sub 3 (.s 84) (.v (.int .i64 1)))] [oo 86 (.call 55 [(.s 78), (.v (.int .i64 0)), (.s 85)]), oo 87 (.un .not (.s 86)), oo 76 (.mv (.s 87))] := rsk
theorem zq2 : RL Tryz.prog Tryz.f56 56 6 [0, 2, 4, 5, 20, 21, 22] none [] [(oo 35 (.mv (.s 0)), [], []), (oo 36 (.nz (.s 35)), [], []), (oo 37 (.fa 0 (.s 36)), [], []), (oo 38 (.fa 3 (.s 37)), [], []), (oo 39 (.ld none (.s 38)), [], []), (oo 40 (.fa 2 (.s 4)), [], []), (oo 41 (.ld none (.s 40)), [], []), (oo 42 (.ixs 4 (.s 39) (.s 41)), [], []), (oo 43 (.ld (some 4) (.s 42)), [], []), (oo 5 (.new 153 [(.str ByteArray.empty), (.int .i64 0), (.int .i64 0), (.int .i64 0)]), [], [])] [on (.st 4 (.s 5) (.s 43))] := rlk
theorem zq3 : RL Tryz.prog Tryz.f56 56 7 [0, 2, 20, 21, 22] none [] [(oo 44 (.mv (.s 0)), [], []), (oo 45 (.fa 2 (.s 5)), [], []), (oo 46 (.ld none (.s 45)), [], []), (oo 47 (.bin .eql 3 (.s 46) (.v (.int .i64 (-1)))), [], []), (oo 48 (.fa 1 (.s 4)), [], []), (oo 49 (.ld none (.s 48)), [], []), (oo 50 (.fa 1 (.s 5)), [], []), (oo 51 (.ld none (.s 50)), [], []), (oo 52 (.bin .lss 3 (.s 49) (.s 51)), [], []), (oo 53 (.fa 1 (.s 5)), [], []), (oo 54 (.ld none (.s 53)), [], []), (oo 55 (.call 55 [(.s 54), (.v (.int .i64 1)), (.v (.int .i64 64))]), [], []), (oo 56 (.fa 3 (.s 4)), [], [11]), (oo 57 (.ld none (.s 56)), [], [11]), (oo 58 (.fa 1 (.s 5)), [], [11]), (oo 59 (.ld none (.s 58)), [], [11]), (oo 60 (.fa 1 (.s 4)), [], [11]), (oo 61 (.ld none (.s 60)), [], [11]), (oo 62 (.bin .sub 3 (.s 59) (.s 61)), [], [11]), (oo 63 (.call 55 [(.s 57), (.v (.int .i64 0)), (.s 62)]), [], []), (oo 64 (.bsl 4 1 [(.bool false), (.bool false), (.bool false), (.bool false)] 4 [(0, (.s 47)), (1, (.s 52)), (2, (.s 55)), (3, (.s 63))]), [], [])] [oo 65 (.call 53 [(.s 44), (.s 64)])] := rlk
theorem e56 : CX Tryz.f56 fun r l a => CE Tryz.prog (l 0) (.seq (r 3) (.seq (.cond (.tmp 23) .skip (.exit 0)) (.seq (.block 1 (.seq (r 4) (.seq (r 5) (.block 2 (.seq (r 8) (.cond (.tmp 66) (r 9) (.seq (r 10) (.cond (.tmp 76) (r 11) (.seq (r 6) (r 7)))))))))) (r 12)))) := cek
theorem d56 : CD Tryz.f56 fun r l a => (.seq (r 0) (.seq (r 1) (.seq (r 2) (.block 0 (.loop (l 0)))))) := cek
theorem yarz : RI Tryz.prog 56 Tryz.f56 92 [] := rik Tryz.func56
theorem t57 : type_of% (by have h := tf (zbc Tryz.f57 57 [0, 1, 2, 3, 5, 6, 7, 9, 11, 12]); conv at h => { lhs; cbv }; exact h) := by kernel_rfl
theorem n57 : type_of% (by have h := zaa t57; simp only [RDs, ba0, ba1] at h; exact h) := zaa t57
theorem zq4 : RL Tryz.prog Tryz.f57 57 4 [0, 2, 4, 11, 12, 13] none [(3, 2)] [(oo 17 (.mv (.s 0)), [3], []), (oo 18 (.fa 0 (.s 4)), [], []), (oo 19 (.ld none (.s 18)), [], []), (oo 20 (.call 59 [(.s 2), (.s 19)]), [], []), (oo 21 (.fa 1 (.s 4)), [3], [3]), (oo 22 (.ld none (.s 21)), [3], [3]), (oo 23 (.lenl (.s 22)), [3], [3]), (oo 24 (.bin .gtr 3 (.s 23) (.v (.int .i64 0))), [3], [3]), (oo 25 (.bsl 4 1 [(.bool false), (.bool false)] 2 [(0, (.s 20)), (1, (.s 24))]), [], [])] [oo 26 (.call 53 [(.s 17), (.s 25)])] := rlk
theorem zq5 : RL Tryz.prog Tryz.f57 57 8 [0, 2, 4, 6, 11, 12, 13, 28, 29, 30] none [] [(oo 35 (.mv (.s 0)), [], []), (oo 36 (.mv (.s 6)), [], []), (oo 37 (.mv (.s 0)), [], []), (oo 38 (.nz (.s 37)), [], []), (oo 39 (.fa 0 (.s 38)), [], []), (oo 40 (.fa 3 (.s 39)), [], []), (oo 41 (.ld none (.s 40)), [], []), (oo 42 (.lenl (.s 41)), [], []), (oo 43 (.bin .sub 3 (.s 42) (.v (.int .i64 1))), [], []), (oo 44 (.call 55 [(.s 36), (.v (.int .i64 0)), (.s 43)]), [], []), (oo 45 (.fa 1 (.s 4)), [], [9]), (oo 46 (.ld none (.s 45)), [], [9]), (oo 47 (.mv (.s 5)), [], [9]), (oo 48 (.slc 1 (.s 46) none (some (.s 47))), [], [9]), (oo 49 (.mv (.s 6)), [], [9]), (oo 50 (.call 70 [(.s 48), (.s 49)]), [], []), (oo 51 (.un .not (.s 50)), [], []), (oo 52 (.bsl 4 1 [(.bool false), (.bool false)] 2 [(0, (.s 44)), (1, (.s 51))]), [], [])] [oo 53 (.call 53 [(.s 35), (.s 52)])] := rlk
theorem zjs : RL Tryz.prog Tryz.f57 57 10 [0, 2, 4, 11, 12, 13, 28, 29, 30] none [] [(oo 58 (.mv (.s 0)), [], []), (oo 59 (.mv (.s 0)), [], []), (oo 60 (.nz (.s 59)), [], []), (oo 61 (.fa 0 (.s 60)), [], []), (oo 62 (.fa 3 (.s 61)), [], []), (oo 63 (.ld none (.s 62)), [], []), (oo 64 (.mv (.s 6)), [], []), (oo 65 (.ixs 4 (.s 63) (.s 64)), [], []), (oo 66 (.fa 1 (.s 65)), [], []), (oo 67 (.ld none (.s 66)), [], []), (oo 68 (.mv (.s 0)), [], []), (oo 69 (.nz (.s 68)), [], []), (oo 70 (.fa 0 (.s 69)), [], []), (oo 71 (.fa 3 (.s 70)), [], []), (oo 72 (.ld none (.s 71)), [], []), (oo 73 (.fa 1 (.s 4)), [], []), (oo 74 (.ld none (.s 73)), [], []), (oo 75 (.ixs 1 (.s 74) (.v (.int .i64 0))), [], []), (oo 76 (.ld none (.s 75)), [], []), (oo 77 (.ixs 4 (.s 72) (.s 76)), [], []), (oo 78 (.fa 1 (.s 77)), [], []), (oo 79 (.ld none (.s 78)), [], []), (oo 80 (.bin .eql 3 (.s 67) (.s 79)), [], []), (oo 81 (.bsl 4 1 [(.bool false)] 1 [(0, (.s 80))]), [], [])] [oo 82 (.call 53 [(.s 58), (.s 81)])] := rlk
theorem e57 : CX Tryz.f57 fun r l a => CE Tryz.prog (l 1) (.seq (r 6) (.seq (.cond (.tmp 31) .skip (.exit 2)) (.seq (.block 3 (.seq (r 7) (.seq (r 8) (.seq (r 9) (.cond (.tmp 57) (r 10) .skip))))) (r 11)))) ∧
 CE Tryz.prog (l 0) (.seq (r 2) (.seq (.cond (.tmp 14) .skip (.exit 0)) (.seq (.block 1 (.seq (r 3) (.seq (r 4) (.seq (r 5) (.block 2 (.loop (l 1))))))) (r 12)))) := ⟨cek, cek⟩
theorem d57 : CD Tryz.f57 fun r l a => (.seq (r 0) (.seq (r 1) (.block 0 (.loop (l 0))))) := cek
theorem yar0 : RI Tryz.prog 57 Tryz.f57 85 [] := rik Tryz.func57
theorem t58 : type_of% (by have h := tf (zbc Tryz.f58 58 [0, 1, 2, 3, 4, 6]); conv at h => { lhs; cbv }; exact h) := by kernel_rfl
theorem n58 : type_of% (by have h := zaa t58; simp only [RDs, ba0, ba1] at h; exact h) := zaa t58
theorem yac0 : RL Tryz.prog Tryz.f58 58 5 [0, 2, 19, 20, 21] none [(3, 2)] [(oo 25 (.mv (.s 0)), [3], []), (oo 26 (.fa 0 (.s 4)), [], []), (oo 27 (.ld none (.s 26)), [], []), (oo 28 (.call 59 [(.s 2), (.s 27)]), [], []), (oo 29 (.fa 1 (.s 4)), [3], [3]), (oo 30 (.ld none (.s 29)), [3], [3]), (oo 31 (.call 55 [(.s 30), (.v (.int .i64 1)), (.v (.int .i64 4))]), [], []), (oo 32 (.bsl 4 1 [(.bool false), (.bool false)] 2 [(0, (.s 28)), (1, (.s 31))]), [], [])] [oo 33 (.call 53 [(.s 25), (.s 32)])] := rlk
theorem e58 : CX Tryz.f58 fun r l a => CE Tryz.prog (l 0) (.seq (r 3) (.seq (.cond (.tmp 22) .skip (.exit 0)) (.seq (.block 1 (.seq (r 4) (r 5))) (r 6)))) := cek
theorem d58 : CD Tryz.f58 fun r l a => (.seq (r 0) (.seq (r 1) (.seq (r 2) (.block 0 (.loop (l 0)))))) := cek
theorem yar1 : RI Tryz.prog 58 Tryz.f58 35 [] := rik Tryz.func58
theorem t59 : type_of% (by have h := tf (zbc Tryz.f59 59 [0, 1, 2, 3]); conv at h => { lhs; cbv }; exact h) := by kernel_rfl
theorem n59 : type_of% (by have h := zaa t59; simp only [RDs, ba0, ba1] at h; exact h) := zaa t59
theorem d59 : CD Tryz.f59 fun r l a => (.seq (r 0) (.seq (r 1) (.seq (r 2) (.seq (r 3) .ret)))) := cek
theorem yaj6 : RI Tryz.prog 59 Tryz.f59 28 [.tmp 4] := rik Tryz.func59
theorem t60 : type_of% (by have h := tf (zbc Tryz.f60 60 [0, 2, 3, 4, 5, 6, 7, 8, 9, 10, 11]); conv at h => { lhs; cbv }; exact h) := by kernel_rfl
theorem n60 : type_of% (by have h := zaa t60; simp only [RDs, ba0, ba1] at h; exact h) := zaa t60
theorem yav6 : type_of% (by have h := tf (tab Tryz.f60 60 [12, 13, 14, 15, 16, 17, 18, 19, 20, 21]); conv at h => { lhs; cbv }; exact h) := by kernel_rfl
theorem zre : type_of% (by have h := zak yav6; simp only [RDs, ba0, ba1] at h; exact h) := zak yav6
theorem zq6 : RL Tryz.prog Tryz.f60 60 1 [0, 3] none [] [(oo 14 (.mv (.s 0)), [], []), (oo 15 (.fa 1 (.s 3)), [], []), (oo 16 (.ld none (.s 15)), [], []), (oo 17 (.mv (.s 0)), [], []), (oo 18 (.nz (.s 17)), [], []), (oo 19 (.fa 0 (.s 18)), [], []), (oo 20 (.fa 1 (.s 19)), [], []), (oo 21 (.ld none (.s 20)), [], []), (oo 22 (.bin .mul 3 (.v (.int .i64 8)) (.s 21)), [], []), (oo 23 (.call 84 [(.s 22)]), [], []), (oo 24 (.bin .andNot 65 (.s 16) (.s 23)), [], []), (oo 25 (.bin .eql 65 (.s 24) (.v (.int .u64 0))), [], []), (oo 26 (.fa 2 (.s 3)), [], [9]), (oo 27 (.ld none (.s 26)), [], [9]), (oo 28 (.fa 1 (.s 3)), [], [9]), (oo 29 (.ld none (.s 28)), [], [9]), (oo 30 (.bin .andNot 65 (.s 27) (.s 29)), [], [9]), (oo 31 (.bin .eql 65 (.s 30) (.v (.int .u64 0))), [], [9]), (oo 32 (.bsl 4 1 [(.bool false), (.bool false)] 2 [(0, (.s 25)), (1, (.s 31))]), [], [])] [oo 33 (.call 53 [(.s 14), (.s 32)])] := rlk
theorem zjt : RL Tryz.prog Tryz.f60 60 22 [] none [] [(oo 96 (.mv (.s 0)), [], []), (oo 97 (.mv (.s 13)), [], []), (oo 98 (.bin .leq 3 (.s 97) (.v (.int .i64 1))), [], []), (oo 99 (.mv (.s 10)), [], []), (oo 100 (.lk .int (.int .i64 0) (.s 99) (.v (.int .u8 4)) false), [], []), (oo 101 (.bin .eql 3 (.s 100) (.v (.int .i64 0))), [], []), (oo 102 (.mv (.s 101)), [], []), (og 103 102 false (.fa 4 (.s 3)), [], []), (og 104 102 false (.ld none (.s 103)), [], []), (og 105 102 false (.lenl (.s 104)), [], []), (og 106 102 false (.bin .eql 3 (.s 105) (.v (.int .i64 1))), [], []), (oo 107 (.pick (.s 102) (.v (.bool true)) (.s 106)), [], []), (oo 108 (.fa 5 (.s 3)), [], []), (oo 109 (.ld none (.s 108)), [], []), (oo 110 (.mv (.s 0)), [], []), (oo 111 (.nz (.s 110)), [], []), (oo 112 (.fa 0 (.s 111)), [], []), (oo 113 (.fa 5 (.s 112)), [], []), (oo 114 (.ld none (.s 113)), [], []), (oo 115 (.lenl (.s 114)), [], []), (oo 116 (.bin .sub 3 (.s 115) (.v (.int .i64 1))), [], []), (oo 117 (.call 55 [(.s 109), (.v (.int .i64 0)), (.s 116)]), [], []), (oo 118 (.fa 6 (.s 3)), [], [21]), (oo 119 (.ld none (.s 118)), [], [21]), (oo 120 (.call 55 [(.s 119), (.v (.int .i64 1)), (.v (.int .i64 15))]), [], []), (oo 121 (.fa 7 (.s 3)), [], [21, 24]), (oo 122 (.ld none (.s 121)), [], [21, 24]), (oo 123 (.call 55 [(.s 122), (.v (.int .i64 1)), (.v (.int .i64 15))]), [], []), (oo 124 (.fa 8 (.s 3)), [], [21, 24, 27]), (oo 125 (.ld none (.s 124)), [], [21, 24, 27]), (oo 126 (.call 55 [(.s 125), (.v (.int .i64 0)), (.v (.int .i64 2))]), [], []), (oo 127 (.fa 8 (.s 3)), [], [21, 24, 27, 30]), (oo 128 (.ld none (.s 127)), [], [21, 24, 27, 30]), (oo 129 (.bin .eql 3 (.s 128) (.v (.int .i64 0))), [], [21, 24, 27, 30]), (oo 130 (.mv (.s 129)), [], []), (og 131 130 false (.mv (.s 13)), [], []), (og 132 130 false (.bin .eql 3 (.s 131) (.v (.int .i64 1))), [], []), (oo 133 (.pick (.s 130) (.v (.bool true)) (.s 132)), [], []), (oo 134 (.bsl 4 1 [(.bool false), (.bool false), (.bool false), (.bool false), (.bool false), (.bool false), (.bool false)] 7 [(0, (.s 98)), (1, (.s 107)), (2, (.s 117)), (3, (.s 120)), (4, (.s 123)), (5, (.s 126)), (6, (.s 133))]), [], [])] [oo 135 (.call 53 [(.s 96), (.s 134)])] := rlk
theorem e60 : CX Tryz.f60 fun r l a => CE Tryz.prog (l 0) (.seq (r 5) (.seq (.cond (.tmp 42) .skip (.exit 0)) (.seq (.block 1 (.seq (r 6) (.seq (r 7) (.seq (r 8) (.seq (r 9) (r 10)))))) (r 11)))) ∧
 CE Tryz.prog (l 1) (.seq (r 16) (.seq (.cond (.tmp 80) .skip (.exit 2)) (.seq (.block 3 (.seq (r 17) (.seq (r 18) (r 19)))) (r 20)))) := ⟨cek, cek⟩
theorem d60 : CD Tryz.f60 fun r l a => (.seq (r 0) (.seq (r 1) (.seq (r 2) (.seq (r 3) (.seq (.seq (r 4) (.block 0 (.loop (l 0)))) (.seq (.seq (r 12) (.cond (.tmp 71) .ret .skip)) (.seq (r 13) (.seq (r 14) (.seq (.seq (r 15) (.block 2 (.loop (l 1)))) (.seq (r 21) (r 22))))))))))) := cek
theorem yaj7 : RI Tryz.prog 60 Tryz.f60 136 [] := rik Tryz.func60
theorem t61 : type_of% (by have h := tf (zbc Tryz.f61 61 [0, 1, 2, 3, 4, 6, 7, 5, 8, 9]); conv at h => { lhs; cbv }; exact h) := by kernel_rfl
theorem n61 : type_of% (by have h := zaa t61; simp only [RDs, ba0, ba1] at h; exact h) := zaa t61
theorem yav7 : type_of% (by have h := tf (tab Tryz.f61 61 [11, 12, 13, 14, 16, 17, 15, 10, 18]); conv at h => { lhs; cbv }; exact h) := by kernel_rfl
theorem zv8 : type_of% (by have h := zak yav7; simp only [RDs, ba0, ba1] at h; exact h) := zak yav7
theorem e61 : CX Tryz.f61 fun r l a => CE Tryz.prog (l 0) (.seq (.seq (r 4) (.cond (.tmp 32) .skip (.exit 0))) (.seq (.block 1 (.seq (r 6) (.cond (.tmp 42) (.seq (r 7) .ret) .skip))) (r 5))) ∧
 CE Tryz.prog (l 2) (.seq (.seq (r 14) (.cond (.tmp 76) .skip (.exit 4))) (.seq (.block 5 (.seq (r 16) (.cond (.tmp 90) (.seq (r 17) .ret) .skip))) (r 15))) ∧
 CE Tryz.prog (l 1) (.seq (.seq (r 9) (.cond (.tmp 47) .skip (.exit 2))) (.seq (.block 3 (.seq (.seq (r 11) (.cond (.tmp 67) (.seq (r 12) .ret) .skip)) (.seq (r 13) (.block 4 (.loop (l 2)))))) (r 10))) := ⟨cek, cek, cek⟩
theorem d61 : CD Tryz.f61 fun r l a => (.seq (r 0) (.seq (.seq (r 1) (.cond (.tmp 27) (.seq (r 2) .ret) .skip)) (.seq (.seq (r 3) (.block 0 (.loop (l 0)))) (.seq (.seq (r 8) (.block 2 (.loop (l 1)))) (.seq (r 18) .ret))))) := cek
theorem yar2 : RI Tryz.prog 61 Tryz.f61 91 [.tmp 2] := rik Tryz.func61
theorem t62 : type_of% (by have h := tf (zbc Tryz.f62 62 [0, 1, 2, 3, 4, 6, 7, 8, 9]); conv at h => { lhs; cbv }; exact h) := by kernel_rfl
theorem n62 : type_of% (by have h := zaa t62; simp only [RDs, ba0, ba1] at h; exact h) := zaa t62
theorem yav8 : type_of% (by have h := tf (tab Tryz.f62 62 [10, 5, 11]); conv at h => { lhs; cbv }; exact h) := by kernel_rfl
theorem yao6 : type_of% (by have h := zak yav8; simp only [RDs, ba0, ba1] at h; exact h) := zak yav8
theorem e62 : CX Tryz.f62 fun r l a => CE Tryz.prog (l 0) (.seq (.seq (r 4) (.cond (.tmp 18) .skip (.exit 0))) (.seq (.block 1 (.seq (r 6) (.seq (r 7) (.seq (r 8) (.seq (r 9) (.cond (.tmp 57) (.seq (r 10) .ret) .skip)))))) (r 5))) := cek
theorem d62 : CD Tryz.f62 fun r l a => (.seq (r 0) (.seq (.seq (r 1) (.cond (.tmp 14) (.seq (r 2) .ret) .skip)) (.seq (.seq (r 3) (.block 0 (.loop (l 0)))) (.seq (r 11) .ret)))) := cek
theorem yar3 : RI Tryz.prog 62 Tryz.f62 58 [.tmp 2] := rik Tryz.func62
theorem t63 : type_of% (by have h := tf (zbc Tryz.f63 63 [0, 1]); conv at h => { lhs; cbv }; exact h) := by kernel_rfl
theorem n63 : type_of% (by have h := zaa t63; simp only [RDs, ba0, ba1] at h; exact h) := zaa t63
theorem d63 : CD Tryz.f63 fun r l a => (.seq (r 0) (.seq (r 1) .ret)) := cek
theorem yar4 : RI Tryz.prog 63 Tryz.f63 15 [.tmp 6] := rik Tryz.func63
theorem t64 : type_of% (by have h := tf (zbc Tryz.f64 64 [0, 1, 2, 4, 5, 6, 7, 8, 11, 9, 12, 13, 14]); conv at h => { lhs; cbv }; exact h) := by kernel_rfl
theorem n64 : type_of% (by have h := zaa t64; simp only [RDs, ba0, ba1] at h; exact h) := zaa t64
theorem yav9 : type_of% (by have h := tf (tab Tryz.f64 64 [15, 16, 17, 18, 19, 3, 20]); conv at h => { lhs; cbv }; exact h) := by kernel_rfl
theorem zib : type_of% (by have h := zak yav9; simp only [RDs, ba0, ba1] at h; exact h) := zak yav9
theorem zdv : RS Tryz.prog Tryz.f64 64 10 [1, 3, 4, 5, 42] none [oo 34 (.fa 3 (.s 1)), oo 35 (.ld none (.s 34)), oo 36 (.mv (.s 5)), oo 37 (.ixs 4 (.s 35) (.s 36)), oo 38 (.fa 0 (.s 37)), oo 39 (.ld none (.s 38)), oo 40 (.fa 0 (.s 4)), oo 41 (.ld none (.s 40))] [oo 42 (.bin .eql 9 (.s 39) (.s 41))] := rsk
theorem e64 : CX Tryz.f64 fun r l a => CE Tryz.prog (l 1) (.seq (.seq (r 8) (.cond (.tmp 31) .skip (.exit 2))) (.seq (.block 3 (.seq (r 10) (.cond (.tmp 42) (.seq (r 11) .ret) .skip))) (r 9))) ∧
 CE Tryz.prog (l 0) (.seq (.seq (r 2) (.cond (.tmp 11) .skip (.exit 0))) (.seq (.block 1 (.seq (r 4) (.seq (.seq (r 5) (.cond (.tmp 28) (.seq (r 6) .ret) .skip)) (.seq (.seq (r 7) (.block 2 (.loop (l 1)))) (.seq (.seq (r 12) (.cond (.tmp 45) (.seq (.seq (r 13) (.cond (.tmp 48) (.seq (r 14) .ret) .skip)) (.exit 1)) .skip)) (.seq (.seq (r 15) (.cond (.tmp 56) (.seq (r 16) .ret) .skip)) (.seq (r 17) (.seq (r 18) (.cond (.tmp 89) (.seq (r 19) .ret) .skip))))))))) (r 3))) := ⟨cek, cek⟩
theorem d64 : CD Tryz.f64 fun r l a => (.seq (r 0) (.seq (.seq (r 1) (.block 0 (.loop (l 0)))) (.seq (r 20) .ret))) := cek
theorem yar5 : RI Tryz.prog 64 Tryz.f64 94 [.tmp 2] := rik Tryz.func64
theorem t65 : type_of% (by have h := tf (zbc Tryz.f65 65 [0, 1, 2, 4, 5, 6, 7, 8, 11, 9, 12, 13, 16, 17]); conv at h => { lhs; cbv }; exact h) := by kernel_rfl
theorem n65 : type_of% (by have h := zaa t65; simp only [RDs, ba0, ba1] at h; exact h) := zaa t65
theorem yawa : type_of% (by have h := tf (tab Tryz.f65 65 [18, 21, 19, 23, 14, 3, 24]); conv at h => { lhs; cbv }; exact h) := by kernel_rfl
theorem zgc : type_of% (by have h := zak yawa; simp only [RDs, ba0, ba1] at h; exact h) := zak yawa
theorem zc0 : RS Tryz.prog Tryz.f65 65 10 [1, 3, 4, 5, 43] none [oo 35 (.fa 4 (.s 1)), oo 36 (.ld none (.s 35)), oo 37 (.mv (.s 5)), oo 38 (.ixs 2 (.s 36) (.s 37)), oo 39 (.fa 0 (.s 38)), oo 40 (.ld none (.s 39)), oo 41 (.fa 0 (.s 4)), oo 42 (.ld none (.s 41))] [oo 43 (.bin .eql 9 (.s 40) (.s 42))] := rsk
theorem zc1 : RS Tryz.prog Tryz.f65 65 15 [1, 3, 4, 6, 61] none [oo 51 (.fa 1 (.s 4)), oo 52 (.ld none (.s 51)), oo 53 (.mv (.s 6)), oo 54 (.ixs 1 (.s 52) (.s 53)), oo 55 (.ld none (.s 54)), oo 56 (.fa 3 (.s 1)), oo 57 (.ld none (.s 56)), oo 58 (.lenl (.s 57)), oo 59 (.bin .sub 3 (.s 58) (.v (.int .i64 1)))] [oo 60 (.call 63 [(.s 55), (.v (.int .i64 0)), (.s 59)]), oo 61 (.un .not (.s 60))] := rsk
theorem zc2 : RS Tryz.prog Tryz.f65 65 20 [1, 3, 4, 6, 7, 77] none [oo 67 (.fa 1 (.s 4)), oo 68 (.ld none (.s 67)), oo 69 (.mv (.s 7)), oo 70 (.ixs 1 (.s 68) (.s 69)), oo 71 (.ld none (.s 70)), oo 72 (.fa 1 (.s 4)), oo 73 (.ld none (.s 72)), oo 74 (.mv (.s 6)), oo 75 (.ixs 1 (.s 73) (.s 74)), oo 76 (.ld none (.s 75))] [oo 77 (.bin .eql 3 (.s 71) (.s 76))] := rsk
theorem zc3 : RS Tryz.prog Tryz.f65 65 22 [1, 3, 4, 6, 97] none [oo 78 (.fa 3 (.s 1)), oo 79 (.ld none (.s 78)), oo 80 (.fa 1 (.s 4)), oo 81 (.ld none (.s 80)), oo 82 (.mv (.s 6)), oo 83 (.ixs 1 (.s 81) (.s 82)), oo 84 (.ld none (.s 83)), oo 85 (.ixs 4 (.s 79) (.s 84)), oo 86 (.fa 1 (.s 85)), oo 87 (.ld none (.s 86)), oo 88 (.fa 3 (.s 1)), oo 89 (.ld none (.s 88)), oo 90 (.fa 1 (.s 4)), oo 91 (.ld none (.s 90)), oo 92 (.ixs 1 (.s 91) (.v (.int .i64 0))), oo 93 (.ld none (.s 92)), oo 94 (.ixs 4 (.s 89) (.s 93)), oo 95 (.fa 1 (.s 94)), oo 96 (.ld none (.s 95))] [oo 97 (.bin .neq 3 (.s 87) (.s 96))] := rsk
theorem e65 : CX Tryz.f65 fun r l a => CE Tryz.prog (l 1) (.seq (.seq (r 8) (.cond (.tmp 32) .skip (.exit 2))) (.seq (.block 3 (.seq (r 10) (.cond (.tmp 43) (.seq (r 11) .ret) .skip))) (r 9))) ∧
 CE Tryz.prog (l 3) (.seq (.seq (r 18) (.cond (.tmp 64) .skip (.exit 6))) (.seq (.block 7 (.seq (r 20) (.cond (.tmp 77) (.seq (r 21) .ret) .skip))) (r 19))) ∧
 CE Tryz.prog (l 2) (.seq (.seq (r 13) (.cond (.tmp 48) .skip (.exit 4))) (.seq (.block 5 (.seq (.seq (r 15) (.cond (.tmp 61) (.seq (r 16) .ret) .skip)) (.seq (.seq (r 17) (.block 6 (.loop (l 3)))) (.seq (r 22) (.cond (.tmp 97) (.seq (r 23) .ret) .skip))))) (r 14))) ∧
 CE Tryz.prog (l 0) (.seq (.seq (r 2) (.cond (.tmp 12) .skip (.exit 0))) (.seq (.block 1 (.seq (r 4) (.seq (.seq (r 5) (.cond (.tmp 29) (.seq (r 6) .ret) .skip)) (.seq (.seq (r 7) (.block 2 (.loop (l 1)))) (.seq (r 12) (.block 4 (.loop (l 2)))))))) (r 3))) := ⟨cek, cek, cek, cek⟩
theorem d65 : CD Tryz.f65 fun r l a => (.seq (r 0) (.seq (.seq (r 1) (.block 0 (.loop (l 0)))) (.seq (r 24) .ret))) := cek
theorem yar6 : RI Tryz.prog 65 Tryz.f65 98 [.tmp 2] := rik Tryz.func65
theorem t66 : type_of% (by have h := tf (zbc Tryz.f66 66 [0, 1, 2, 4, 5, 6, 7, 10, 8, 3, 11]); conv at h => { lhs; cbv }; exact h) := by kernel_rfl
theorem n66 : type_of% (by have h := zaa t66; simp only [RDs, ba0, ba1] at h; exact h) := zaa t66
theorem zox : RS Tryz.prog Tryz.f66 66 9 [1, 3, 4, 47] none [oo 35 (.fa 5 (.s 1)), oo 36 (.ld none (.s 35)), oo 37 (.mv (.s 4)), oo 38 (.ixs 2 (.s 36) (.s 37)), oo 39 (.fa 0 (.s 38)), oo 40 (.ld none (.s 39)), oo 41 (.fa 5 (.s 1)), oo 42 (.ld none (.s 41)), oo 43 (.mv (.s 3)), oo 44 (.ixs 2 (.s 42) (.s 43)), oo 45 (.fa 0 (.s 44)), oo 46 (.ld none (.s 45))] [oo 47 (.bin .eql 9 (.s 40) (.s 46))] := rsk
theorem e66 : CX Tryz.f66 fun r l a => CE Tryz.prog (l 1) (.seq (.seq (r 7) (.cond (.tmp 32) .skip (.exit 2))) (.seq (.block 3 (.seq (r 9) (.cond (.tmp 47) (.seq (r 10) .ret) .skip))) (r 8))) ∧
 CE Tryz.prog (l 0) (.seq (.seq (r 2) (.cond (.tmp 9) .skip (.exit 0))) (.seq (.block 1 (.seq (.seq (r 4) (.cond (.tmp 29) (.seq (r 5) .ret) .skip)) (.seq (r 6) (.block 2 (.loop (l 1)))))) (r 3))) := ⟨cek, cek⟩
theorem d66 : CD Tryz.f66 fun r l a => (.seq (r 0) (.seq (.seq (r 1) (.block 0 (.loop (l 0)))) (.seq (r 11) .ret))) := cek
theorem yar7 : RI Tryz.prog 66 Tryz.f66 52 [.tmp 2] := rik Tryz.func66
theorem t67 : type_of% (by have h := tf (zbc Tryz.f67 67 [0, 1, 2, 3, 4, 7, 5, 8, 9, 11, 12, 10, 13, 14, 15]); conv at h => { lhs; cbv }; exact h) := by kernel_rfl
theorem n67 : type_of% (by have h := zaa t67; simp only [RDs, ba0, ba1] at h; exact h) := zaa t67
theorem yawb : type_of% (by have h := tf (tab Tryz.f67 67 [16, 17, 20, 21, 22, 23, 24, 18, 25, 26]); conv at h => { lhs; cbv }; exact h) := by kernel_rfl
theorem zhg : type_of% (by have h := zak yawb; simp only [RDs, ba0, ba1] at h; exact h) := zak yawb
theorem yawc : type_of% (by have h := tf (tab Tryz.f67 67 [27]); conv at h => { lhs; cbv }; exact h) := by kernel_rfl
theorem zhh : type_of% (by have h := zak yawc; simp only [RDs, ba0, ba1] at h; exact h) := zak yawc
theorem zg2 : RS Tryz.prog Tryz.f67 67 6 [2, 3, 5, 29] none [oo 21 (.fa 2 (.s 3)), oo 22 (.ld none (.s 21)), oo 23 (.mv (.s 5)), oo 24 (.call 89 [(.s 22), (.s 23)]), oo 25 (.fa 1 (.s 3)), oo 26 (.ld none (.s 25)), oo 27 (.mv (.s 5))] [oo 28 (.call 89 [(.s 26), (.s 27)]), oo 29 (.bin .gtr 3 (.s 24) (.s 28))] := rsk
theorem zdo : RS Tryz.prog Tryz.f67 67 19 [2, 3, 7, 8, 9, 61] none [oo 53 (.ld (some 7) (.s 2)), oo 54 (.ld (some 9) (.s 3)), oo 55 (.fa 4 (.s 3)), oo 56 (.ld none (.s 55)), oo 57 (.mv (.s 9)), oo 58 (.ixs 21 (.s 56) (.s 57)), oo 59 (.ld (some 21) (.s 58))] [oo 60 (.call 92 [(.s 53), (.s 54), (.s 59)]), oo 61 (.un .not (.s 60))] := rsk
theorem e67 : CX Tryz.f67 fun r l a => CE Tryz.prog (l 0) (.seq (.seq (r 4) (.cond (.tmp 18) .skip (.exit 0))) (.seq (.block 1 (.seq (r 6) (.cond (.tmp 29) (.seq (r 7) .ret) .skip))) (r 5))) ∧
 CE Tryz.prog (l 1) (.seq (.seq (r 9) (.cond (.tmp 34) .skip (.exit 2))) (.seq (.block 3 (.seq (r 11) (.cond (.tmp 41) (.seq (r 12) .ret) .skip))) (r 10))) ∧
 CE Tryz.prog (l 2) (.seq (.seq (r 17) (.cond (.tmp 50) .skip (.exit 4))) (.seq (.block 5 (.seq (.seq (r 19) (.cond (.tmp 61) (.seq (r 20) .ret) .skip)) (.seq (.seq (r 21) (.cond (.tmp 68) (r 22) .skip)) (.seq (r 23) (.cond (.tmp 77) (r 24) .skip))))) (r 18))) := ⟨cek, cek, cek⟩
theorem d67 : CD Tryz.f67 fun r l a => (.seq (r 0) (.seq (.seq (r 1) (.cond (.tmp 16) (.seq (r 2) .ret) .skip)) (.seq (.seq (r 3) (.block 0 (.loop (l 0)))) (.seq (.seq (r 8) (.block 2 (.loop (l 1)))) (.seq (.seq (r 13) (.cond (.tmp 45) (.seq (r 14) .ret) .skip)) (.seq (r 15) (.seq (.seq (r 16) (.block 4 (.loop (l 2)))) (.seq (.seq (r 25) (.cond (.tmp 91) (.seq (r 26) .ret) .skip)) (.seq (r 27) .ret))))))))) := cek
theorem yar8 : RI Tryz.prog 67 Tryz.f67 123 [.tmp 4] := rik Tryz.func67
end Go.Proofs.YtibehelnfbcnjaaGreatDoor.v
