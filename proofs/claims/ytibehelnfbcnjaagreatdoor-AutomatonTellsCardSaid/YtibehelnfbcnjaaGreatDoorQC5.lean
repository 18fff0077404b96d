/- What the law's proof leans on, part 19. Conditions: in each statement. -/
import Derived.Test.YtibehelnfbcnjaaGreatDoorQVN
set_option linter.all false
namespace Go.Proofs.YtibehelnfbcnjaaGreatDoor.v
open Go Go.Ab
set_option maxRecDepth 100000
set_option maxHeartbeats 4000000
set_option linter.unusedSimpArgs false
set_option linter.unusedVariables false
theorem t127 : type_of% (by have h := tf (zbc Tryz.f127 127 [0, 1, 2, 3, 5, 4, 6]); conv at h => { lhs; cbv }; exact h) := by kernel_rfl
theorem n127 : type_of% (by have h := zaa t127; simp only [RDs, ba0, ba1] at h; exact h) := zaa t127
theorem e127 : CX Tryz.f127 fun r l a => CE Tryz.prog (l 0) (.seq (.seq (r 3) (.cond (.tmp 7) .skip (.exit 0))) (.seq (.block 1 (r 5)) (r 4))) := cek
theorem d127 : CD Tryz.f127 fun r l a => (.seq (r 0) (.seq (r 1) (.seq (.seq (r 2) (.block 0 (.loop (l 0)))) (.seq (r 6) .ret)))) := cek
theorem yamy : RI Tryz.prog 127 Tryz.f127 13 [.tmp 2] := rik Tryz.func127
theorem t128 : type_of% (by have h := tf (zbc Tryz.f128 128 [0, 1]); conv at h => { lhs; cbv }; exact h) := by kernel_rfl
theorem n128 : type_of% (by have h := zaa t128; simp only [RDs, ba0, ba1] at h; exact h) := zaa t128
theorem d128 : CD Tryz.f128 fun r l a => (.seq (r 0) (.seq (r 1) .ret)) := cek
theorem yamz : RI Tryz.prog 128 Tryz.f128 32 [.tmp 2] := rik Tryz.func128
theorem t129 : type_of% (by have h := tf (zbc Tryz.f129 129 [0, 1]); conv at h => { lhs; cbv }; exact h) := by kernel_rfl
theorem n129 : type_of% (by have h := zaa t129; simp only [RDs, ba0, ba1] at h; exact h) := zaa t129
theorem d129 : CD Tryz.f129 fun r l a => (.seq (r 0) (.seq (r 1) .ret)) := cek
theorem yam0 : RI Tryz.prog 129 Tryz.f129 16 [.tmp 6] := rik Tryz.func129
theorem t130 : type_of% (by have h := tf (zbc Tryz.f130 130 [0, 1, 3]); conv at h => { lhs; cbv }; exact h) := by kernel_rfl
theorem n130 : type_of% (by have h := zaa t130; simp only [RDs, ba0, ba1] at h; exact h) := zaa t130
theorem yakg : RS Tryz.prog Tryz.f130 130 2 [4] none [oo 8 (.fa 3 (.s 2)), oo 9 (.ld none (.s 8)), oo 10 (.fa 4 (.s 2)), oo 11 (.ld none (.s 10)), oo 12 (.fa 2 (.s 3)), oo 13 (.ld none (.s 12)), oo 14 (.ixs 2 (.s 11) (.s 13)), oo 15 (.fa 1 (.s 14)), oo 16 (.ld none (.s 15)), oo 17 (.ixs 1 (.s 16) (.v (.int .i64 0))), oo 18 (.ld none (.s 17))] [oo 19 (.ixs 4 (.s 9) (.s 18)), oo 20 (.fa 1 (.s 19)), oo 21 (.ld none (.s 20)), oo 4 (.mv (.s 21))] := rsk
theorem d130 : CD Tryz.f130 fun r l a => (.seq (r 0) (.seq (.seq (r 1) (.cond (.tmp 7) (.seq (r 2) .ret) .skip)) (.seq (r 3) .ret))) := cek
theorem yam1 : RI Tryz.prog 130 Tryz.f130 24 [.tmp 4] := rik Tryz.func130
theorem t140 : type_of% (by have h := tf (zbc Tryz.f140 140 [0, 1, 2, 3, 4, 5, 6, 7, 8, 9, 10]); conv at h => { lhs; cbv }; exact h) := by kernel_rfl
theorem n140 : type_of% (by have h := zaa t140; simp only [RDs, ba0, ba1] at h; exact h) := zaa t140
theorem zkf : zux Tryz.prog 34 = some none := by kernel_rfl
theorem e140 : CX Tryz.f140 fun r l a => CE Tryz.prog (a 0) (r 4) ∧
 CE Tryz.prog (l 0) (.block 1 (.seq (r 5) (.cond (.tmp 19) (.seq (r 6) .ret) .skip))) := ⟨cek, cek⟩
theorem d140 : CD Tryz.f140 fun r l a => (.seq (r 0) (.seq (.seq (r 1) (.cond (.tmp 13) (.seq (r 2) .ret) .skip)) (.seq (.seq (r 3) (.block 0 (.rangeFunc (.tmp 15) #[16] (a 0) (l 0)))) (.seq (.seq (r 7) (.seq (r 8) (.cond (.tmp 26) (.seq (r 9) .ret) .skip))) (.seq (r 10) .ret))))) := cek
theorem yam2 : RI Tryz.prog 140 Tryz.f140 27 [.cell 2 34] := rik Tryz.func140
theorem t141 : type_of% (by have h := tf (zbc Tryz.f141 141 [0, 1, 2, 3, 4, 6, 7, 8, 9, 10]); conv at h => { lhs; cbv }; exact h) := by kernel_rfl
theorem n141 : type_of% (by have h := zaa t141; simp only [RDs, ba0, ba1] at h; exact h) := zaa t141
theorem zs7 : RL Tryz.prog Tryz.f141 141 5 [0, 1, 5] none [] [(oo 24 (.mv (.s 0)), [], []), (oo 25 (.fa 5 (.s 5)), [], []), (oo 26 (.ld none (.s 25)), [], []), (oo 27 (.ixs 6 (.s 26) (.v (.int .i64 0))), [], []), (oo 28 (.fa 1 (.s 27)), [], []), (oo 29 (.ld none (.s 28)), [], []), (oo 30 (.mv (.s 0)), [], []), (oo 31 (.nz (.s 30)), [], []), (oo 32 (.fa 0 (.s 31)), [], []), (oo 33 (.fa 2 (.s 32)), [], []), (oo 34 (.ld none (.s 33)), [], []), (oo 35 (.bin .eql 3 (.s 29) (.s 34)), [], []), (oo 36 (.bsl 4 1 [(.bool false)] 1 [(0, (.s 35))]), [], [])] [oo 37 (.call 53 [(.s 24), (.s 36)])] := rlk
theorem e141 : CX Tryz.f141 fun r l a => CE Tryz.prog (l 0) (.seq (r 7) (.seq (.cond (.tmp 42) .skip (.exit 1)) (.seq (.block 2 (.seq (r 8) (r 9))) (r 10)))) := cek
theorem d141 : CD Tryz.f141 fun r l a => (.seq (r 0) (.seq (.seq (r 1) (.block 0 (.seq (r 2) (.cond (.tmp 10) (r 3) (.seq (r 4) (.cond (.tmp 22) (r 5) .skip)))))) (.seq (r 6) (.block 1 (.loop (l 0)))))) := cek
theorem yam3 : RI Tryz.prog 141 Tryz.f141 50 [] := rik Tryz.func141
theorem t142 : type_of% (by have h := tf (zbc Tryz.f142 142 [0, 1, 2, 3, 4, 5, 6, 7, 9, 10, 13, 11, 8, 14]); conv at h => { lhs; cbv }; exact h) := by kernel_rfl
theorem n142 : type_of% (by have h := zaa t142; simp only [RDs, ba0, ba1] at h; exact h) := zaa t142
theorem zej : RS Tryz.prog Tryz.f142 142 12 [3, 4, 5, 53] none [oo 30 (.mv (.s 3)), oo 31 (.mv (.s 5)), oo 32 (.ixs 3 (.s 30) (.s 31)), oo 33 (.fa 0 (.s 32)), oo 34 (.ld none (.s 33)), oo 35 (.mv (.s 3)), oo 36 (.mv (.s 4)), oo 37 (.ixs 3 (.s 35) (.s 36)), oo 38 (.fa 0 (.s 37)), oo 39 (.ld none (.s 38)), oo 40 (.bin .eql 9 (.s 34) (.s 39)), oo 41 (.mv (.s 40)), og 42 41 true (.mv (.s 3)), og 43 41 true (.mv (.s 5)), og 44 41 true (.ixs 3 (.s 42) (.s 43)), og 45 41 true (.fa 1 (.s 44)), og 46 41 true (.ld none (.s 45)), og 47 41 true (.mv (.s 3)), og 48 41 true (.mv (.s 4)), og 49 41 true (.ixs 3 (.s 47) (.s 48)), og 50 41 true (.fa 1 (.s 49)), og 51 41 true (.ld none (.s 50))] [og 52 41 true (.bin .neq 3 (.s 46) (.s 51)), oo 53 (.pick (.s 41) (.s 52) (.v (.bool false)))] := rsk
theorem e142 : CX Tryz.f142 fun r l a => CE Tryz.prog (l 1) (.seq (.seq (r 10) (.cond (.tmp 27) .skip (.exit 2))) (.seq (.block 3 (.seq (r 12) (.cond (.tmp 53) (.seq (r 13) .ret) .skip))) (r 11))) ∧
 CE Tryz.prog (l 0) (.seq (.seq (r 7) (.cond (.tmp 22) .skip (.exit 0))) (.seq (.block 1 (.seq (r 9) (.block 2 (.loop (l 1))))) (r 8))) := ⟨cek, cek⟩
theorem d142 : CD Tryz.f142 fun r l a => (.seq (r 0) (.seq (.seq (r 1) (.cond (.tmp 13) (.seq (r 2) .ret) .skip)) (.seq (.seq (r 3) (.cond (.tmp 16) (.seq (r 4) .ret) .skip)) (.seq (r 5) (.seq (.seq (r 6) (.block 0 (.loop (l 0)))) (.seq (r 14) .ret)))))) := cek
theorem yam4 : RI Tryz.prog 142 Tryz.f142 54 [.tmp 2] := rik Tryz.func142
theorem t143 : type_of% (by have h := tf (zbc Tryz.f143 143 [0, 1, 2, 4, 5, 6, 9, 7, 10]); conv at h => { lhs; cbv }; exact h) := by kernel_rfl
theorem n143 : type_of% (by have h := zaa t143; simp only [RDs, ba0, ba1] at h; exact h) := zaa t143
theorem zgz : RS Tryz.prog Tryz.f143 143 3 [3, 4, 5, 33] none [oo 21 (.fa 0 (.s 5)), oo 22 (.ld none (.s 21)), oo 23 (.bin .eql 5 (.s 22) (.v (.int .u8 24))), oo 24 (.mv (.s 23)), og 25 24 true (.fa 5 (.s 5)), og 26 24 true (.ld none (.s 25)), og 27 24 true (.ixs 6 (.s 26) (.v (.int .i64 0))), og 28 24 true (.fa 1 (.s 27)), og 29 24 true (.ld none (.s 28)), og 30 24 true (.fa 2 (.s 3)), og 31 24 true (.ld none (.s 30))] [og 32 24 true (.bin .neq 3 (.s 29) (.s 31)), oo 33 (.pick (.s 24) (.s 32) (.v (.bool false)))] := rsk
theorem zg0 : RS Tryz.prog Tryz.f143 143 8 [3, 4, 5, 7, 49] none [oo 41 (.ld (some 7) (.s 3)), oo 42 (.ld (some 9) (.s 4)), oo 43 (.fa 5 (.s 5)), oo 44 (.ld none (.s 43)), oo 45 (.mv (.s 7)), oo 46 (.ixs 6 (.s 44) (.s 45)), oo 47 (.ld (some 6) (.s 46))] [oo 48 (.call 143 [(.s 41), (.s 42), (.s 47)]), oo 49 (.un .not (.s 48))] := rsk
theorem e143 : CX Tryz.f143 fun r l a => CE Tryz.prog (l 0) (.seq (.seq (r 6) (.cond (.tmp 38) .skip (.exit 0))) (.seq (.block 1 (.seq (r 8) (.cond (.tmp 49) (.seq (r 9) .ret) .skip))) (r 7))) := cek
theorem d143 : CD Tryz.f143 fun r l a => (.seq (r 0) (.seq (.seq (r 1) (.cond (.tmp 20) (.seq (r 2) .ret) .skip)) (.seq (.seq (r 3) (.cond (.tmp 33) (.seq (r 4) .ret) .skip)) (.seq (.seq (r 5) (.block 0 (.loop (l 0)))) (.seq (r 10) .ret))))) := cek
theorem yam5 : RI Tryz.prog 143 Tryz.f143 50 [.tmp 6] := rik Tryz.func143
theorem t154 : type_of% (by have h := tf (zbc Tryz.f154 154 [0, 1, 2, 3, 4]); conv at h => { lhs; cbv }; exact h) := by kernel_rfl
theorem n154 : type_of% (by have h := zaa t154; simp only [RDs, ba0, ba1] at h; exact h) := zaa t154
theorem e154 : CX Tryz.f154 fun r l a => CE Tryz.prog (a 0) .skip ∧
 CE Tryz.prog (l 0) (.block 1 (r 3)) := ⟨cek, cek⟩
theorem d154 : CD Tryz.f154 fun r l a => (.seq (r 0) (.seq (r 1) (.seq (.seq (r 2) (.block 0 (.rangeFunc (.tmp 5) #[6] (a 0) (l 0)))) (.seq (r 4) .ret)))) := cek
theorem yam6 : RI Tryz.prog 154 Tryz.f154 10 [.tmp 2] := rik Tryz.func154
theorem t155 : type_of% (by have h := tf (zbc Tryz.f155 155 [0, 1, 2, 3, 4, 5, 6, 7]); conv at h => { lhs; cbv }; exact h) := by kernel_rfl
theorem n155 : type_of% (by have h := zaa t155; simp only [RDs, ba0, ba1] at h; exact h) := zaa t155
theorem e155 : CX Tryz.f155 fun r l a => CE Tryz.prog (l 0) (.seq (r 3) (.seq (.cond (.tmp 10) .skip (.exit 0)) (.seq (.block 1 (.seq (r 4) (r 5))) (r 6)))) := cek
theorem d155 : CD Tryz.f155 fun r l a => (.seq (r 0) (.seq (r 1) (.seq (.seq (r 2) (.block 0 (.loop (l 0)))) (.seq (r 7) .ret)))) := cek
theorem yam7 : RI Tryz.prog 155 Tryz.f155 20 [.tmp 2] := rik Tryz.func155
theorem t156 : type_of% (by have h := tf (zbc Tryz.f156 156 [0, 1]); conv at h => { lhs; cbv }; exact h) := by kernel_rfl
theorem n156 : type_of% (by have h := zaa t156; simp only [RDs, ba0, ba1] at h; exact h) := zaa t156
theorem d156 : CD Tryz.f156 fun r l a => (.seq (r 0) (.seq (r 1) .ret)) := cek
theorem yam8 : RI Tryz.prog 156 Tryz.f156 4 [.tmp 2] := rik Tryz.func156
theorem t157 : type_of% (by have h := tf (zbc Tryz.f157 157 [0, 1, 2, 3, 4, 5]); conv at h => { lhs; cbv }; exact h) := by kernel_rfl
theorem n157 : type_of% (by have h := zaa t157; simp only [RDs, ba0, ba1] at h; exact h) := zaa t157
theorem yal6 : type_of% (by have h := tf (tab Tryz.f157 157 [6, 7]); conv at h => { lhs; cbv }; exact h) := by kernel_rfl
theorem zyc : type_of% (by have h := zak yal6; simp only [RDs, ba0, ba1] at h; exact h) := zak yal6
theorem d157 : CD Tryz.f157 fun r l a => (.seq (r 0) (.seq (.seq (r 1) (.cond (.tmp 9) (.seq (r 2) .ret) .skip)) (.seq (r 3) (.seq (.seq (r 4) (.cond (.tmp 17) (.seq (r 5) (.seq (r 6) .ret)) .skip)) (.seq (r 7) .ret))))) := cek
theorem yam9 : RI Tryz.prog 157 Tryz.f157 92 [.tmp 2] := rik Tryz.func157
theorem t158 : type_of% (by have h := tf (zbc Tryz.f158 158 [0, 1, 2, 3, 4, 5, 6, 7, 8, 9]); conv at h => { lhs; cbv }; exact h) := by kernel_rfl
theorem n158 : type_of% (by have h := zaa t158; simp only [RDs, ba0, ba1] at h; exact h) := zaa t158
theorem zn6 : zux Tryz.prog 99 = some none := by kernel_rfl
theorem zn7 : zux Tryz.prog 4 = some none := by kernel_rfl
theorem e158 : CX Tryz.f158 fun r l a => CE Tryz.prog (a 0) (r 3) ∧
 CE Tryz.prog (l 0) (.block 1 (.seq (.seq (r 4) (.cond (.tmp 14) (.exit 1) .skip)) (.seq (.seq (r 5) (.seq (r 6) (.cond (.tmp 28) (.seq (r 7) .ret) .skip))) (r 8)))) := ⟨cek, cek⟩
theorem d158 : CD Tryz.f158 fun r l a => (.seq (r 0) (.seq (r 1) (.seq (.seq (r 2) (.block 0 (.rangeFunc (.tmp 10) #[11] (a 0) (l 0)))) (.seq (r 9) .ret)))) := cek
theorem yana : RI Tryz.prog 158 Tryz.f158 35 [.cell 2 99, .cell 3 4] := rik Tryz.func158
theorem t159 : type_of% (by have h := tf (zbc Tryz.f159 159 [0, 1, 2, 3, 5, 4, 6]); conv at h => { lhs; cbv }; exact h) := by kernel_rfl
theorem n159 : type_of% (by have h := zaa t159; simp only [RDs, ba0, ba1] at h; exact h) := zaa t159
theorem e159 : CX Tryz.f159 fun r l a => CE Tryz.prog (l 0) (.seq (.seq (r 3) (.cond (.tmp 9) .skip (.exit 0))) (.seq (.block 1 (r 5)) (r 4))) := cek
theorem d159 : CD Tryz.f159 fun r l a => (.seq (r 0) (.seq (r 1) (.seq (.seq (r 2) (.block 0 (.loop (l 0)))) (.seq (r 6) .ret)))) := cek
theorem yanb : RI Tryz.prog 159 Tryz.f159 22 [.tmp 2] := rik Tryz.func159
theorem t160 : type_of% (by have h := tf (zbc Tryz.f160 160 [0, 1, 2, 4, 5, 3, 7, 8, 9, 10, 11, 12]); conv at h => { lhs; cbv }; exact h) := by kernel_rfl
theorem n160 : type_of% (by have h := zaa t160; simp only [RDs, ba0, ba1] at h; exact h) := zaa t160
theorem yal7 : type_of% (by have h := tf (tab Tryz.f160 160 [13, 14, 15, 16, 17]); conv at h => { lhs; cbv }; exact h) := by kernel_rfl
theorem zj3 : type_of% (by have h := zak yal7; simp only [RDs, ba0, ba1] at h; exact h) := zak yal7
theorem yal8 : type_of% (by have h := tf (tab Tryz.f160 160 [18, 19, 20, 21, 22, 23, 24, 25]); conv at h => { lhs; cbv }; exact h) := by kernel_rfl
theorem zj4 : type_of% (by have h := zak yal8; simp only [RDs, ba0, ba1] at h; exact h) := zak yal8
theorem yal9 : type_of% (by have h := tf (tab Tryz.f160 160 [26, 27, 28, 29, 30]); conv at h => { lhs; cbv }; exact h) := by kernel_rfl
theorem zj5 : type_of% (by have h := zak yal9; simp only [RDs, ba0, ba1] at h; exact h) := zak yal9
theorem yama : type_of% (by have h := tf (tab Tryz.f160 160 [31, 32, 33, 34, 35, 36]); conv at h => { lhs; cbv }; exact h) := by kernel_rfl
theorem zj6 : type_of% (by have h := zak yama; simp only [RDs, ba0, ba1] at h; exact h) := zak yama
theorem zjq : RS Tryz.prog Tryz.f160 160 6 [1, 4, 5] none [oo 21 (.fa 1 (.s 1)), oo 22 (.ld none (.s 21)), oo 23 (.fa 5 (.s 1)), oo 24 (.ld none (.s 23)), oo 25 (.lenl (.s 24)), oo 4 (.mv (.s 22))] [oo 5 (.mv (.s 25))] := rsk
theorem e160 : CX Tryz.f160 fun r l a => CE Tryz.prog (l 0) (.seq (.seq (r 2) (.cond (.tmp 11) .skip (.exit 0))) (.seq (.block 1 (.seq (r 4) (.cond (.tmp 20) (.seq (r 5) .ret) .skip))) (r 3))) := cek
theorem d160 : CD Tryz.f160 fun r l a => (.seq (r 0) (.seq (.seq (r 1) (.block 0 (.loop (l 0)))) (.seq (r 6) (.seq (.seq (r 7) (.cond (.tmp 28) (.seq (r 8) .ret) .skip)) (.seq (.seq (r 9) (.block 2 (.seq (r 10) (.cond (.tmp 31) (.seq (r 11) .ret) (.seq (r 12) (.cond (.tmp 51) (.seq (r 13) .ret) .skip)))))) (.seq (.seq (r 14) (.cond (.tmp 101) (.seq (r 15) .ret) .skip)) (.seq (r 16) (.seq (.seq (r 17) (.block 3 (.seq (.seq (r 18) (.cond (.tmp 109) .skip (r 19))) (.cond (.tmp 109) (.seq (r 20) .ret) (.seq (.seq (r 21) (.cond (.tmp 119) .skip (.seq (r 22) (.cond (.tmp 119) .skip (r 23))))) (.cond (.tmp 119) (.seq (r 24) .ret) (.seq (r 25) (.cond (.tmp 138) (.seq (r 26) .ret) (.seq (r 27) (.cond (.tmp 164) (.seq (r 28) .ret) (.seq (r 29) (.cond (.tmp 179) (.seq (r 30) .ret) (.seq (.seq (r 31) (.cond (.tmp 202) .skip (r 32))) (.cond (.tmp 202) (.seq (r 33) .ret) (.seq (r 34) (.cond (.tmp 212) (.seq (r 35) .ret) .skip)))))))))))))))) (.seq (r 36) .ret))))))))) := cek
theorem zkx : RI Tryz.prog 160 Tryz.f160 236 [.tmp 2] := rik Tryz.func160
theorem t161 : type_of% (by have h := tf (zbc Tryz.f161 161 [0, 1, 2, 3, 4, 5, 7, 6, 8]); conv at h => { lhs; cbv }; exact h) := by kernel_rfl
theorem n161 : type_of% (by have h := zaa t161; simp only [RDs, ba0, ba1] at h; exact h) := zaa t161
theorem e161 : CX Tryz.f161 fun r l a => CE Tryz.prog (l 0) (.seq (.seq (r 5) (.cond (.tmp 20) .skip (.exit 0))) (.seq (.block 1 (r 7)) (r 6))) := cek
theorem d161 : CD Tryz.f161 fun r l a => (.seq (r 0) (.seq (r 1) (.seq (.seq (r 2) (.cond (.tmp 7) (r 3) .skip)) (.seq (.seq (r 4) (.block 0 (.loop (l 0)))) (.seq (r 8) .ret))))) := cek
theorem yanc : RI Tryz.prog 161 Tryz.f161 32 [.tmp 2] := rik Tryz.func161
theorem t162 : type_of% (by have h := tf (zbc Tryz.f162 162 [0, 1, 2, 3, 4, 6, 5, 8, 9, 11, 12]); conv at h => { lhs; cbv }; exact h) := by kernel_rfl
theorem n162 : type_of% (by have h := zaa t162; simp only [RDs, ba0, ba1] at h; exact h) := zaa t162
theorem yamb : type_of% (by have h := tf (tab Tryz.f162 162 [10, 13]); conv at h => { lhs; cbv }; exact h) := by kernel_rfl
theorem zis : type_of% (by have h := zak yamb; simp only [RDs, ba0, ba1] at h; exact h) := zak yamb
theorem zij : RS Tryz.prog Tryz.f162 162 7 [8] none [oo 32 (.mv (.s 3)), oo 33 (.ld (some 7) (.s 4)), oo 34 (.fa 3 (.s 5)), oo 35 (.ld none (.s 34)), oo 36 (.mv (.s 9)), oo 37 (.ixs 6 (.s 35) (.s 36)), oo 38 (.ld (some 6) (.s 37)), oo 39 (.call 130 [(.s 33), (.s 38)])] [oo 40 (.bin .eql 3 (.s 32) (.s 39)), oo 8 (.mv (.s 40))] := rsk
theorem e162 : CX Tryz.f162 fun r l a => CE Tryz.prog (l 0) (.seq (.seq (r 4) (.cond (.tmp 21) .skip (.exit 0))) (.seq (.block 1 (.seq (r 6) (.cond (.tmp 31) (.seq (r 7) .ret) .skip))) (r 5))) ∧
 CE Tryz.prog (l 1) (.seq (.seq (r 9) (.cond (.tmp 45) .skip (.exit 2))) (.seq (.block 3 (.seq (r 11) (.cond (.tmp 56) (.seq (r 12) .ret) .skip))) (r 10))) := ⟨cek, cek⟩
theorem d162 : CD Tryz.f162 fun r l a => (.seq (r 0) (.seq (.seq (r 1) (.cond (.tmp 12) (.seq (r 2) .ret) .skip)) (.seq (.seq (r 3) (.block 0 (.loop (l 0)))) (.seq (.seq (r 8) (.block 2 (.loop (l 1)))) (.seq (r 13) .ret))))) := cek
theorem yand : RI Tryz.prog 162 Tryz.f162 65 [.tmp 8] := rik Tryz.func162
theorem t168 : type_of% (by have h := tf (zbc Tryz.f168 168 [0]); conv at h => { lhs; cbv }; exact h) := by kernel_rfl
theorem n168 : type_of% (by have h := zaa t168; simp only [RDs, ba0, ba1] at h; exact h) := zaa t168
theorem d168 : CD Tryz.f168 fun r l a => (r 0) := cek
theorem zm3 : RI Tryz.prog 168 Tryz.f168 6 [] := rik Tryz.func168
theorem t169 : type_of% (by have h := tf (zbc Tryz.f169 169 [0, 1, 2, 3, 4, 5, 6, 7, 8, 9]); conv at h => { lhs; cbv }; exact h) := by kernel_rfl
theorem zv6 : type_of% (by have h := zaa t169; simp only [RDs, ba0, ba1] at h; exact h) := zaa t169
theorem zvr : CX Tryz.f169 fun r l a => CE Tryz.prog (l 0) (.seq (r 4) (.seq (.cond (.tmp 15) .skip (.exit 0)) (.seq (.block 1 (.seq (r 5) (.seq (r 6) (.cond (.tmp 21) (.seq (r 7) .ret) .skip)))) (r 8)))) := cek
theorem zvo : CD Tryz.f169 fun r l a => (.seq (r 0) (.seq (.seq (r 1) (.cond (.tmp 10) (.seq (r 2) .ret) .skip)) (.seq (.seq (r 3) (.block 0 (.loop (l 0)))) (.seq (r 9) .ret)))) := cek
theorem zve : RI Tryz.prog 169 Tryz.f169 23 [.tmp 4] := rik Tryz.func169
theorem t170 : type_of% (by have h := tf (zbc Tryz.f170 170 [0, 1]); conv at h => { lhs; cbv }; exact h) := by kernel_rfl
theorem n170 : type_of% (by have h := zaa t170; simp only [RDs, ba0, ba1] at h; exact h) := zaa t170
theorem d170 : CD Tryz.f170 fun r l a => (.seq (r 0) (.seq (r 1) .ret)) := cek
theorem yane : RI Tryz.prog 170 Tryz.f170 9 [.tmp 2] := rik Tryz.func170
theorem t171 : type_of% (by have h := tf (zbc Tryz.f171 171 [0, 1, 2]); conv at h => { lhs; cbv }; exact h) := by kernel_rfl
theorem n171 : type_of% (by have h := zaa t171; simp only [RDs, ba0, ba1] at h; exact h) := zaa t171
theorem yalr : zux Tryz.prog 236 = some (some 3) := by kernel_rfl
theorem yakh : RL Tryz.prog Tryz.f171 171 3 [2, 3] none [(8, 2)] [(oo 7 (.mv (.s 0)), [], []), (oo 8 (.raw (.indexAddr 244 (.global 0) (.tmp 7))), [], []), (oo 9 (.ld (some 3) (.s 8)), [], []), (oo 10 (.mv (.s 0)), [8], [1]), (oo 11 (.raw (.indexAddr 244 (.global 0) (.tmp 10))), [8], [1]), (oo 12 (.fa 1 (.s 11)), [8], [1]), (oo 13 (.ld none (.s 12)), [8], [1]), (oo 14 (.bin .gtr 3 (.s 13) (.v (.int .i64 0))), [8], [1]), (on (.st 3 (.s 2) (.s 9)), [], [4])] [oo 3 (.mv (.s 14))] := rlk
theorem d171 : CD Tryz.f171 fun r l a => (.seq (r 0) (.seq (.seq (r 1) (.cond (.tmp 5) (.seq (r 2) .ret) .skip)) (.seq (r 3) .ret))) := cek
theorem yanf : RI Tryz.prog 171 Tryz.f171 15 [.cell 2 236, .tmp 3] := rik Tryz.func171
theorem t172 : type_of% (by have h := tf (zbc Tryz.f172 172 [0, 1]); conv at h => { lhs; cbv }; exact h) := by kernel_rfl
theorem n172 : type_of% (by have h := zaa t172; simp only [RDs, ba0, ba1] at h; exact h) := zaa t172
theorem d172 : CD Tryz.f172 fun r l a => (.seq (r 0) (.seq (r 1) .ret)) := cek
theorem yang : RI Tryz.prog 172 Tryz.f172 13 [.tmp 4] := rik Tryz.func172
theorem t173 : type_of% (by have h := tf (zbc Tryz.f173 173 [0, 1]); conv at h => { lhs; cbv }; exact h) := by kernel_rfl
theorem n173 : type_of% (by have h := zaa t173; simp only [RDs, ba0, ba1] at h; exact h) := zaa t173
theorem d173 : CD Tryz.f173 fun r l a => (.seq (r 0) (.seq (r 1) .ret)) := cek
theorem yanh : RI Tryz.prog 173 Tryz.f173 6 [.tmp 2] := rik Tryz.func173
theorem t174 : type_of% (by have h := tf (zbc Tryz.f174 174 [0, 1, 2, 3, 4, 5, 6, 7, 8, 10, 12]); conv at h => { lhs; cbv }; exact h) := by kernel_rfl
theorem n174 : type_of% (by have h := zaa t174; simp only [RDs, ba0, ba1] at h; exact h) := zaa t174
theorem yamc : type_of% (by have h := tf (tab Tryz.f174 174 [13, 14, 15, 16]); conv at h => { lhs; cbv }; exact h) := by kernel_rfl
theorem zhe : type_of% (by have h := zak yamc; simp only [RDs, ba0, ba1] at h; exact h) := zak yamc
theorem zg1 : RS Tryz.prog Tryz.f174 174 9 [4] none [oo 37 (.mv (.s 6)), oo 38 (.bin .eql 3 (.s 37) (.v (.int .i64 1))), oo 39 (.mv (.s 38)), og 40 39 true (.fa 5 (.s 2)), og 41 39 true (.ld none (.s 40)), og 42 39 true (.ixs 6 (.s 41) (.v (.int .i64 1))), og 43 39 true (.fa 1 (.s 42)), og 44 39 true (.ld none (.s 43)), og 45 39 true (.ld none (.s 5)), og 46 39 true (.bin .eql 3 (.s 44) (.s 45)), oo 47 (.pick (.s 39) (.s 46) (.v (.bool false))), oo 48 (.mv (.s 47)), og 49 48 true (.fa 5 (.s 2)), og 50 48 true (.ld none (.s 49)), og 51 48 true (.ixs 6 (.s 50) (.v (.int .i64 2))), og 52 48 true (.fa 1 (.s 51)), og 53 48 true (.ld none (.s 52)), og 54 48 true (.ld none (.s 5))] [og 55 48 true (.bin .eql 3 (.s 53) (.s 54)), oo 56 (.pick (.s 48) (.s 55) (.v (.bool false))), oo 4 (.mv (.s 56))] := rsk
theorem zek : RS Tryz.prog Tryz.f174 174 11 [4] (some [4]) [oo 59 (.mv (.s 6)), oo 60 (.call 170 [(.s 59)]), oo 61 (.mv (.s 60)), og 62 61 true (.fa 5 (.s 2)), og 63 61 true (.ld none (.s 62)), og 64 61 true (.ixs 6 (.s 63) (.v (.int .i64 1))), og 65 61 true (.fa 1 (.s 64)), og 66 61 true (.ld none (.s 65)), og 67 61 true (.call 170 [(.s 66)]), oo 68 (.pick (.s 61) (.s 67) (.v (.bool false))), oo 69 (.mv (.s 68)), og 70 69 true (.mv (.s 6)), og 71 69 true (.fa 5 (.s 2)), og 72 69 true (.ld none (.s 71)), og 73 69 true (.ixs 6 (.s 72) (.v (.int .i64 1))), og 74 69 true (.fa 1 (.s 73)), og 75 69 true (.ld none (.s 74)), og 76 69 true (.bin .add 3 (.s 70) (.s 75)), og 77 69 true (.ld none (.s 5))] [og 78 69 true (.bin .eql 3 (.s 76) (.s 77)), oo 79 (.pick (.s 69) (.s 78) (.v (.bool false))), oo 4 (.mv (.s 79))] := rsk
theorem d174 : CD Tryz.f174 fun r l a => (.seq (r 0) (.seq (r 1) (.seq (r 2) (.seq (.seq (r 3) (.block 0 (.seq (r 4) (.cond (.tmp 15) (.seq (r 5) .ret) (.seq (r 6) (.cond (.tmp 22) (.seq (r 7) .ret) (.seq (r 8) (.cond (.tmp 35) (.seq (r 9) .ret) (.seq (r 10) (.cond (.tmp 57) (.seq (r 11) .ret) (.seq (r 12) (.cond (.tmp 80) (.seq (r 13) .ret) (.seq (r 14) (.cond (.tmp 102) (.seq (r 15) .ret) .skip)))))))))))))) (.seq (r 16) .ret))))) := cek
theorem zvf : RI Tryz.prog 174 Tryz.f174 109 [.tmp 4] := rik Tryz.func174
theorem t175 : type_of% (by have h := tf (zbc Tryz.f175 175 [0, 1]); conv at h => { lhs; cbv }; exact h) := by kernel_rfl
theorem n175 : type_of% (by have h := zaa t175; simp only [RDs, ba0, ba1] at h; exact h) := zaa t175
theorem d175 : CD Tryz.f175 fun r l a => (.seq (r 0) (.seq (r 1) .ret)) := cek
theorem yani : RI Tryz.prog 175 Tryz.f175 9 [.tmp 2] := rik Tryz.func175
theorem t176 : type_of% (by have h := tf (zbc Tryz.f176 176 [0, 1]); conv at h => { lhs; cbv }; exact h) := by kernel_rfl
theorem n176 : type_of% (by have h := zaa t176; simp only [RDs, ba0, ba1] at h; exact h) := zaa t176
theorem d176 : CD Tryz.f176 fun r l a => (.seq (r 0) (.seq (r 1) .ret)) := cek
theorem yanj : RI Tryz.prog 176 Tryz.f176 17 [.tmp 4] := rik Tryz.func176
theorem t177 : type_of% (by have h := tf (zbc Tryz.f177 177 [0, 1, 2, 3]); conv at h => { lhs; cbv }; exact h) := by kernel_rfl
theorem n177 : type_of% (by have h := zaa t177; simp only [RDs, ba0, ba1] at h; exact h) := zaa t177
theorem d177 : CD Tryz.f177 fun r l a => (.seq (r 0) (.seq (.seq (r 1) (.cond (.tmp 10) (.seq (r 2) .ret) .skip)) (.seq (r 3) .ret))) := cek
theorem yank : RI Tryz.prog 177 Tryz.f177 16 [.tmp 2] := rik Tryz.func177
theorem t178 : type_of% (by have h := tf (zbc Tryz.f178 178 [0, 1]); conv at h => { lhs; cbv }; exact h) := by kernel_rfl
theorem n178 : type_of% (by have h := zaa t178; simp only [RDs, ba0, ba1] at h; exact h) := zaa t178
theorem d178 : CD Tryz.f178 fun r l a => (.seq (r 0) (.seq (r 1) .ret)) := cek
theorem yanl : RI Tryz.prog 178 Tryz.f178 17 [.tmp 2] := rik Tryz.func178
theorem t180 : type_of% (by have h := tf (zbc Tryz.f180 180 [0, 1]); conv at h => { lhs; cbv }; exact h) := by kernel_rfl
theorem n180 : type_of% (by have h := zaa t180; simp only [RDs, ba0, ba1] at h; exact h) := zaa t180
theorem d180 : CD Tryz.f180 fun r l a => (.seq (r 0) (.seq (r 1) .ret)) := cek
theorem yanm : RI Tryz.prog 180 Tryz.f180 8 [.tmp 4] := rik Tryz.func180
theorem t181 : type_of% (by have h := tf (zbc Tryz.f181 181 [0, 1]); conv at h => { lhs; cbv }; exact h) := by kernel_rfl
theorem n181 : type_of% (by have h := zaa t181; simp only [RDs, ba0, ba1] at h; exact h) := zaa t181
theorem d181 : CD Tryz.f181 fun r l a => (.seq (r 0) (.seq (r 1) .ret)) := cek
theorem yann : RI Tryz.prog 181 Tryz.f181 9 [.tmp 4] := rik Tryz.func181
theorem t182 : type_of% (by have h := tf (zbc Tryz.f182 182 [0, 1]); conv at h => { lhs; cbv }; exact h) := by kernel_rfl
theorem n182 : type_of% (by have h := zaa t182; simp only [RDs, ba0, ba1] at h; exact h) := zaa t182
theorem d182 : CD Tryz.f182 fun r l a => (.seq (r 0) (.seq (r 1) .ret)) := cek
theorem yano : RI Tryz.prog 182 Tryz.f182 8 [.tmp 3] := rik Tryz.func182
theorem t183 : type_of% (by have h := tf (zbc Tryz.f183 183 [0, 1]); conv at h => { lhs; cbv }; exact h) := by kernel_rfl
theorem n183 : type_of% (by have h := zaa t183; simp only [RDs, ba0, ba1] at h; exact h) := zaa t183
theorem d183 : CD Tryz.f183 fun r l a => (.seq (r 0) (.seq (r 1) .ret)) := cek
theorem yanp : RI Tryz.prog 183 Tryz.f183 17 [.tmp 2] := rik Tryz.func183
theorem t184 : type_of% (by have h := tf (zbc Tryz.f184 184 [0, 1, 2, 3, 5, 4, 6]); conv at h => { lhs; cbv }; exact h) := by kernel_rfl
theorem n184 : type_of% (by have h := zaa t184; simp only [RDs, ba0, ba1] at h; exact h) := zaa t184
theorem e184 : CX Tryz.f184 fun r l a => CE Tryz.prog (l 0) (.seq (.seq (r 3) (.cond (.tmp 7) .skip (.exit 0))) (.seq (.block 1 (r 5)) (r 4))) := cek
theorem d184 : CD Tryz.f184 fun r l a => (.seq (r 0) (.seq (r 1) (.seq (.seq (r 2) (.block 0 (.loop (l 0)))) (.seq (r 6) .ret)))) := cek
theorem yanq : RI Tryz.prog 184 Tryz.f184 14 [.tmp 2] := rik Tryz.func184
theorem t185 : type_of% (by have h := tf (zbc Tryz.f185 185 [0, 1, 2, 3]); conv at h => { lhs; cbv }; exact h) := by kernel_rfl
theorem n185 : type_of% (by have h := zaa t185; simp only [RDs, ba0, ba1] at h; exact h) := zaa t185
theorem d185 : CD Tryz.f185 fun r l a => (.seq (r 0) (.seq (.seq (r 1) (.cond (.tmp 7) (.seq (r 2) .ret) .skip)) (.seq (r 3) .ret))) := cek
theorem yanr : RI Tryz.prog 185 Tryz.f185 13 [.tmp 4] := rik Tryz.func185
theorem t186 : type_of% (by have h := tf (zbc Tryz.f186 186 [0, 1, 2, 3, 4, 5, 6, 7]); conv at h => { lhs; cbv }; exact h) := by kernel_rfl
theorem n186 : type_of% (by have h := zaa t186; simp only [RDs, ba0, ba1] at h; exact h) := zaa t186
theorem e186 : CX Tryz.f186 fun r l a => CE Tryz.prog (l 0) (.seq (r 2) (.seq (.cond (.tmp 9) .skip (.exit 0)) (.seq (.block 1 (.seq (r 3) (.seq (r 4) (.cond (.tmp 16) (.seq (r 5) .ret) .skip)))) (r 6)))) := cek
theorem d186 : CD Tryz.f186 fun r l a => (.seq (r 0) (.seq (.seq (r 1) (.block 0 (.loop (l 0)))) (.seq (r 7) .ret))) := cek
theorem yans : RI Tryz.prog 186 Tryz.f186 19 [.tmp 4] := rik Tryz.func186
theorem t187 : type_of% (by have h := tf (zbc Tryz.f187 187 [0, 1]); conv at h => { lhs; cbv }; exact h) := by kernel_rfl
theorem n187 : type_of% (by have h := zaa t187; simp only [RDs, ba0, ba1] at h; exact h) := zaa t187
theorem d187 : CD Tryz.f187 fun r l a => (.seq (r 0) (.seq (r 1) .ret)) := cek
theorem yant : RI Tryz.prog 187 Tryz.f187 18 [.tmp 4] := rik Tryz.func187
end Go.Proofs.YtibehelnfbcnjaaGreatDoor.v
